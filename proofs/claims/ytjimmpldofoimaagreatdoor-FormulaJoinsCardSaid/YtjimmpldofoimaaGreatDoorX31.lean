/- FormulaJoins: the law holds at all formulas and every kind. -/
import Derived.Test.YtjimmpldofoimaaGreatDoorX29
open Nat renaming reduceEqDiff → xQ, reduceAdd → xA, reduceMul → xM, reduceLeDiff → xL
open Int renaming reduceLT → xT, reduceLE → xE, reduceToNat → xN
open Go.AL renaming retPost_one → xP, retPost_oneN → xR, ers_at' → xS
set_option linter.unusedVariables false
set_option linter.unusedSimpArgs false
namespace Go.AL
open Go.Proofs
@[reducible] noncomputable def p9 (Γ : Glob) : Par := par Γ [7, 9, 11, 16, 17, 18] [(3, [false, false, true, false, true, true]), (6, [false, false, false, false, false, false, true, false, true])] [(3, [0, 0, 2, 0, 14, 31, 63, 127, 127, 0, 767, 2047]), (6, [0, 1, 3, 7, 15, 31, 63, 0, 255, 0, 1023, 2047, 4095, 8191])]
theorem ok9 (Γ : Glob) : FnOk (p9 Γ) 9 107 (Tryz.f9.body.getD .skip) Tryz.f9.results.toList 3 := fnOk (par_mixed _ _ _ _) Tryz.func9 rfl rfl rfl (by kernel_rfl) (Nat.le_of_ble_eq_true rfl) (by kernel_rfl)
variable {Γ : Glob}
attribute [local irreducible] codeW opsW dopsW
theorem short_fitJ {f : Fm} (h : shortFB f = true) : f.nodes.length ≤ 201 ∧ ∀ n ∈ f.nodes, NdFit n := by
  unfold shortFB at h
  rw [Bool.and_eq_true, Bool.or_eq_true, decide_eq_true_eq, decide_eq_true_eq, List.all_eq_true] at h
  refine ⟨by omega, fun n hn => ?_⟩
  have := h.1 n hn
  simp [shortNdB] at this
  exact ⟨by omega, by omega⟩
/-- What Joined gives, as the law has it. -/
def jE (op : Int) (f g : Fm) : Int := firstE [whenE (!decide (op = 3) && !decide (op = 4)) 11, checkE f, checkE g]
theorem jE_bad {op : Int} {f g : Fm} (h : ¬ jE op f g = 0) : joinE op f g = jE op f g := by
  unfold jE at h
  unfold joinE jE
  simp only [firstE_cons, firstE_nil] at h ⊢
  split
  · rename_i h1
    rw [if_pos h1] at h
    split
    · rename_i h2
      rw [if_pos h2] at h
      split
      · rename_i h3
        rw [if_pos h3] at h
        exact absurd rfl h
      · rfl
    · rfl
  · rfl
theorem jE_good {op : Int} {f g : Fm} (h : jE op f g = 0) (hl : f.nodes.length ≤ 201) : (op = 3 ∨ op = 4) ∧ checkE f = 0 ∧ checkE g = 0 ∧ joinE op f g = (rJoin op f g).2 ∧ (if joinE op f g = 0 then joinF op f g else fm0) = (rJoin op f g).1 := by
  have h0 := (firstE_zero _).1 h
  have h1 := h0 (whenE (!decide (op = 3) && !decide (op = 4)) 11) (by simp)
  have h2 := h0 (checkE f) (by simp)
  have h3 := h0 (checkE g) (by simp)
  have ho : op = 3 ∨ op = 4 := by
    have := (whenE_zero (by decide)).1 h1
    simp at this
    by_cases e : op = 3
    · exact .inl e
    · exact .inr (this e)
  have hF : (⟨f.vars, rJoinN op f g⟩ : Fm) = joinF op f g := by
    unfold rJoinN
    rw [← join_nodes h2]
    rfl
  have e : joinE op f g = if f.vars = g.vars then (if 200 < (f.nodes.length : Int) + g.nodes.length + 1 then 5 else 0) else 2 := by
    unfold joinE
    rw [firstE_cons, if_pos h1, firstE_cons, if_pos h2, firstE_cons, if_pos h3, firstE_cons, firstE_cons, firstE_nil]
    by_cases hv : f.vars = g.vars
    · by_cases h5 : 200 < (f.nodes.length : Int) + g.nodes.length + 1
      · have : (200 : Int) ≤ f.nodes.length + g.nodes.length := by omega
        simp [whenE, hv, h5, this]
      · have : ¬ (200 : Int) ≤ f.nodes.length + g.nodes.length := by omega
        simp [whenE, hv, h5, this]
    · simp [whenE, hv]
  refine ⟨ho, h2, h3, ?_⟩
  rw [e]
  unfold rJoin
  by_cases hv : f.vars = g.vars
  · rw [if_pos hv, if_pos hv]
    by_cases h5 : 200 < (f.nodes.length : Int) + g.nodes.length + 1
    · rw [if_pos h5, if_pos h5]
      exact ⟨rfl, by rw [if_neg (by decide)]⟩
    · rw [if_neg h5, if_neg h5]
      exact ⟨rfl, by rw [if_pos rfl]; exact hF.symm⟩
  · rw [if_neg hv, if_neg hv]
    exact ⟨rfl, by rw [if_neg (by decide)]⟩
theorem opp_bad {f : Fm} (h : ¬ checkE f = 0) : oppE f = checkE f := by rw [oppE, firstE_cons, if_neg h]
theorem opp_good {f : Fm} (h : checkE f = 0) : oppE f = rOppE f ∧ (if oppE f = 0 then oppF' f else fm0) = (if rOppE f = 0 then rOppF f else fm0) := by
  have hl := (check_ok h).2.1
  have e : oppE f = rOppE f := by
    rw [oppE, firstE_cons, if_pos h, firstE_cons, firstE_nil, rOppE]
    by_cases h2 : (f.nodes.length : Int) = 200
    · have : (200 : Int) ≤ f.nodes.length := by omega
      simp [whenE, h2]
    · have : ¬ (200 : Int) ≤ f.nodes.length := by omega
      simp [whenE, h2, this]
  refine ⟨e, ?_⟩
  rw [e]
  have hF : oppF' f = rOppF f := by
    unfold rOppF
    rw [← opp_nodes h]
    rfl
  rw [hF]
theorem fit_nil : fm0.nodes.length ≤ 500 ∧ ∀ n ∈ fm0.nodes, NdFit n := ⟨Nat.zero_le _, fun n hn => by cases hn⟩
theorem fit_join {op : Int} {f g : Fm} (hf : f.nodes.length ≤ 201 ∧ ∀ n ∈ f.nodes, NdFit n) (hg : g.nodes.length ≤ 201 ∧ ∀ n ∈ g.nodes, NdFit n) : (if joinE op f g = 0 then joinF op f g else fm0).nodes.length ≤ 500 ∧ ∀ n ∈ (if joinE op f g = 0 then joinF op f g else fm0).nodes, NdFit n := by
  have sh : ∀ {m : Int} {n : Nd}, NdFit n → NdFit (shiftN m n) := fun {m n} h => ⟨h.1, by show Fits (shiftN m n).kids.length; rw [shiftN, List.length_map]; exact h.2⟩
  split
  · refine ⟨by simp [joinF]; omega, fun n hn => ?_⟩
    simp only [joinF, List.mem_append, List.mem_map, List.mem_singleton] at hn
    rcases hn with (⟨x, hx, rfl⟩ | ⟨x, hx, rfl⟩) | rfl
    · exact sh (hf.2 x hx)
    · exact sh (hg.2 x hx)
    · exact ⟨Nat.zero_le _, by show (2 : Nat) ≤ 1000000000000; decide⟩
  · exact fit_nil
theorem fit_opp {f : Fm} (hf : f.nodes.length ≤ 201 ∧ ∀ n ∈ f.nodes, NdFit n) : (if oppE f = 0 then oppF' f else fm0).nodes.length ≤ 500 ∧ ∀ n ∈ (if oppE f = 0 then oppF' f else fm0).nodes, NdFit n := by
  have sh : ∀ {m : Int} {n : Nd}, NdFit n → NdFit (shiftN m n) := fun {m n} h => ⟨h.1, by show Fits (shiftN m n).kids.length; rw [shiftN, List.length_map]; exact h.2⟩
  split
  · refine ⟨by simp [oppF']; omega, fun n hn => ?_⟩
    simp only [oppF', List.mem_append, List.mem_map, List.mem_singleton] at hn
    rcases hn with ⟨x, hx, rfl⟩ | rfl
    · exact sh (hf.2 x hx)
    · exact ⟨Nat.zero_le _, by show (1 : Nat) ≤ 1000000000000; decide⟩
  · exact fit_nil
theorem fit_alw {n : Int} : (if alwE n = 0 then alwF n else fm0).nodes.length ≤ 500 ∧ ∀ x ∈ (if alwE n = 0 then alwF n else fm0).nodes, NdFit x := by
  split
  · refine ⟨by simp [alwF], fun x hx => ?_⟩
    simp only [alwF, List.mem_singleton] at hx
    subst hx
    exact ⟨Nat.zero_le _, Nat.zero_le _⟩
  · exact fit_nil
theorem whole_fz {σ : Sig} {f g : Fm} {e r : Int} {x : AV} (hx : x = fmA g ∨ (x = .agg [int 0, .v (.slice none 0 0)] ∧ g = fm0)) : FzL σ σ ([] ++ [fmA f, int e, int r, x] ++ []) [fmA f, int e, int r, fmA g] := by
  refine .cons (.refl _) (.cons (.refl _) (.cons (.refl _) (.cons ?_ .nil)))
  rcases hx with rfl | ⟨rfl, rfl⟩
  · exact .refl _
  · exact .agg (.cons (.refl _) (.cons .nil .nil))
theorem un2 {σ : Sig} {k i : Nat} {x : Blk} (h : upd σ k (some x) i = none) : (¬ i = k ∧ ¬ k = i) ∧ σ i = none := ⟨⟨(un h).1, fun e => (un h).1 e.symm⟩, (un h).2⟩
theorem whole_true {X : Fm} {E : Int} (h : E = 0 ∨ X = fm0) : (decide (X = if E = 0 then X else fm0) && decide (E = E)) = true := by
  rcases h with h | h
  · simp [h]
  · simp [h]
set_option maxHeartbeats 4000000 in
set_option maxRecDepth 20000 in
theorem f9 (hG : Γ 0 = some sortsT) (hG2 : Γ 2 = some [int 0, int 0]) (hG5 : Γ 5 = some powT) (op : Int) (f g : Fm) (hl : f.nodes.length ≤ 9223372036854775807) (hl2 : g.nodes.length ≤ 9223372036854775807) : PCalls Tryz.prog Γ 9 [int op, fmA f, fmA g] (.v (.bool true)) := by
  have q34 : ((3 : Int) = 4) = False := eq_false (by decide)
  have q43 : ((4 : Int) = 3) = False := eq_false (by decide)
  refine pcalls (ok9 Γ) fun σ => ?_
  by_cases s1 : shortFB f = true
  · by_cases s2 : shortFB g = true
    · obtain ⟨fF1, fF2⟩ := short_fitJ s1
      obtain ⟨fG1, fG2⟩ := short_fitJ s2
      obtain ⟨CJ, CE, c64, fJ1, fJ2, tJ, qJ, pJ⟩ : ∃ CJ CE, PCalls Tryz.prog Γ 64 [int op, fmA f, fmA g] (.tup [fmA CJ, int CE]) ∧ CJ.nodes.length ≤ 500 ∧ (∀ n ∈ CJ.nodes, NdFit n) ∧ (CE = 0 ∨ CJ = fm0) ∧ (jE op f g = 0 → CJ = (rJoin op f g).1 ∧ CE = (rJoin op f g).2) ∧ (¬ jE op f g = 0 → CJ = fm0 ∧ CE = jE op f g) := by
        obtain ⟨a1, a2⟩ := fit_join (op := op) ⟨fF1, fF2⟩ ⟨fG1, fG2⟩
        refine ⟨_, _, f64 hG op f g (by omega) fF2 (by omega) fG2, a1, a2, ?_, fun h => ?_, fun h => ?_⟩
        · by_cases e : joinE op f g = 0
          · exact .inl e
          · exact .inr (if_neg e)
        · obtain ⟨_, _, _, e1, e2⟩ := jE_good h fF1
          exact ⟨e2, e1⟩
        · have e := jE_bad h
          exact ⟨if_neg (by rw [e]; exact h), e⟩
      obtain ⟨CO, EO, c65, fO1, fO2, tO, qO, pO⟩ : ∃ CO EO, PCalls Tryz.prog Γ 65 [fmA f] (.tup [fmA CO, int EO]) ∧ CO.nodes.length ≤ 500 ∧ (∀ n ∈ CO.nodes, NdFit n) ∧ (EO = 0 ∨ CO = fm0) ∧ (checkE f = 0 → CO = (if rOppE f = 0 then rOppF f else fm0) ∧ EO = rOppE f) ∧ (¬ checkE f = 0 → CO = fm0 ∧ EO = checkE f) := by
        obtain ⟨a1, a2⟩ := fit_opp ⟨fF1, fF2⟩
        refine ⟨_, _, f65 hG f (by omega) fF2, a1, a2, ?_, fun h => ?_, fun h => ?_⟩
        · by_cases e : oppE f = 0
          · exact .inl e
          · exact .inr (if_neg e)
        · obtain ⟨e1, e2⟩ := opp_good h
          exact ⟨e2, e1⟩
        · have e := opp_bad h
          exact ⟨if_neg (by rw [e]; exact h), e⟩
      obtain ⟨CA, EA, c66, fA1, fA2, tA, qA, pA⟩ : ∃ CA EA, PCalls Tryz.prog Γ 66 [int op] (.tup [fmA CA, int EA]) ∧ CA.nodes.length ≤ 500 ∧ (∀ n ∈ CA.nodes, NdFit n) ∧ (EA = 0 ∨ CA = fm0) ∧ (alwE op = 0 → CA = rAlw op ∧ EA = 0) ∧ (¬ alwE op = 0 → CA = fm0 ∧ EA = alwE op) := by
        obtain ⟨a1, a2⟩ := fit_alw (n := op)
        refine ⟨_, _, f66 op, a1, a2, ?_, fun h => ⟨if_pos h, h⟩, fun h => ⟨if_neg h, rfl⟩⟩
        by_cases e : alwE op = 0
        · exact .inl e
        · exact .inr (if_neg e)
      have hJ : ∀ w, w = (!decide (op = 3) && !decide (op = 4)) → firstE [whenE w 11, checkE f, checkE g] = jE op f g := fun w e => by rw [e]; rfl
      simp only [go_sem, xQ, ↓reduceIte, xA, xM, xL, xT, xE, xN, xP, xR, xS, Tryz.f9]
      refine callB_use (f39 f hl) rfl ?_
      simp only [go_sem, xQ, ↓reduceIte, xA, xM, xL, xT, xE, xN, xP, xR, xS, s1]
      refine callB_use (f39 g hl2) rfl ?_
      simp only [go_sem, xQ, ↓reduceIte, xA, xM, xL, xT, xE, xN, xP, xR, xS, s1, s2]
      refine dcallB_use (f42 f (by omega) fF2) rfl ?_
      simp only [go_sem, xQ, ↓reduceIte, xA, xM, xL, xT, xE, xN, xP, xR, xS, s1, s2]
      refine dcallB_use (f42 g (by omega) fG2) rfl ?_
      simp only [go_sem, xQ, ↓reduceIte, xA, xM, xL, xT, xE, xN, xP, xR, xS, s1, s2]
      refine dcallB_use (c64) rfl ?_
      simp only [go_sem, xQ, ↓reduceIte, xA, xM, xL, xT, xE, xN, xP, xR, xS, s1, s2]
      intro b7 hb7
      simp only [go_sem, xQ, ↓reduceIte, xA, xM, xL, xT, xE, xN, xP, xR, xS, s1, s2]
      refine callB_use (f42 f (by omega) fF2) rfl ?_
      simp only [go_sem, xQ, ↓reduceIte, xA, xM, xL, xT, xE, xN, xP, xR, xS, s1, s2]
      refine callB_use (c65) rfl ?_
      simp only [go_sem, xQ, ↓reduceIte, xA, xM, xL, xT, xE, xN, xP, xR, xS, s1, s2]
      intro b9 hb9
      obtain ⟨N1, hb9⟩ := un2 hb9
      simp only [go_sem, xQ, ↓reduceIte, xA, xM, xL, xT, xE, xN, xP, xR, xS, s1, s2, N1]
      refine callB_use (c66) rfl ?_
      simp only [go_sem, xQ, ↓reduceIte, xA, xM, xL, xT, xE, xN, xP, xR, xS, s1, s2, N1]
      intro b11 hb11
      obtain ⟨N2, hb11⟩ := un2 hb11
      obtain ⟨N3, hb11⟩ := un2 hb11
      have N4 := s1
      have N5 := s2
      by_cases h3 : op = 3
      · have T3 := eq_true h3
        simp only [go_sem, xQ, ↓reduceIte, xA, xM, xL, xT, xE, xN, xP, xR, xS, N1, N2, N3, N4, N5, T3]
        refine dcallB_use (f67 _ _) rfl ?_
        simp only [go_sem, xQ, ↓reduceIte, xA, xM, xL, xT, xE, xN, xP, xR, xS, N1, N2, N3, N4, N5, T3]
        refine dcallB_use (f44 f (by omega) fF2) rfl ?_
        simp only [go_sem, xQ, ↓reduceIte, xA, xM, xL, xT, xE, xN, xP, xR, xS, N1, N2, N3, N4, N5, T3]
        refine callB_use (f44 g (by omega) fG2) rfl ?_
        simp only [go_sem, xQ, ↓reduceIte, xA, xM, xL, xT, xE, xN, xP, xR, xS, N1, N2, N3, N4, N5, T3]
        refine callB_use (f33 [whenE false 11, checkE f, checkE g] (by simp)) rfl ?_
        simp only [go_sem, xQ, ↓reduceIte, xA, xM, xL, xT, xE, xN, xP, xR, xS, N1, N2, N3, N4, N5, T3]
        refine callB_use (f44 f (by omega) fF2) rfl ?_
        simp only [go_sem, xQ, ↓reduceIte, xA, xM, xL, xT, xE, xN, xP, xR, xS, N1, N2, N3, N4, N5, T3]
        refine callB_use (f68 op) rfl ?_
        simp only [go_sem, xQ, ↓reduceIte, xA, xM, xL, xT, xE, xN, xP, xR, xS, N1, N2, N3, N4, N5, T3]
        intro b16 hb16
        obtain ⟨n16c, hb16⟩ := un2 hb16
        obtain ⟨n16b, hb16⟩ := un2 hb16
        obtain ⟨n16a, hb16⟩ := un2 hb16
        simp only [go_sem, xQ, ↓reduceIte, xA, xM, xL, xT, xE, xN, xP, xR, xS, N1, N2, N3, N4, N5, n16a, n16b, n16c, T3]
        intro b17 hb17
        obtain ⟨n17d, hb17⟩ := un2 hb17
        obtain ⟨n17c, hb17⟩ := un2 hb17
        obtain ⟨n17b, hb17⟩ := un2 hb17
        obtain ⟨n17a, hb17⟩ := un2 hb17
        simp only [go_sem, xQ, ↓reduceIte, xA, xM, xL, xT, xE, xN, xP, xR, xS, N1, N2, N3, N4, N5, n16a, n16b, n16c, n17a, n17b, n17c, n17d, T3]
        intro b18 hb18
        obtain ⟨n18e, hb18⟩ := un2 hb18
        obtain ⟨n18d, hb18⟩ := un2 hb18
        obtain ⟨n18c, hb18⟩ := un2 hb18
        obtain ⟨n18b, hb18⟩ := un2 hb18
        obtain ⟨n18a, hb18⟩ := un2 hb18
        have N6 := And.intro (And.intro n16a (And.intro n16b n16c)) (And.intro (And.intro n17a (And.intro n17b (And.intro n17c n17d))) (And.intro n18a (And.intro n18b (And.intro n18c (And.intro n18d n18e)))))
        have hJe := hJ false (by simp [h3])
        simp only [go_sem, xQ, ↓reduceIte, xA, xM, xL, xT, xE, xN, xP, xR, xS, N1, N2, N3, N4, N5, N6, hJe, T3]
        by_cases hj : jE op f g = 0
        · obtain ⟨rfl, rfl⟩ := qJ hj
          simp only [go_sem, xQ, ↓reduceIte, xA, xM, xL, xT, xE, xN, xP, xR, xS, N1, N2, N3, N4, N5, N6, hJe, hj, T3]
          refine callB_use (f69 op f g (by omega) fF2 (by omega) fG2) rfl ?_
          simp only [go_sem, xQ, ↓reduceIte, xA, xM, xL, xT, xE, xN, xP, xR, xS, N1, N2, N3, N4, N5, N6, T3]
          by_cases ho : checkE f = 0
          · obtain ⟨rfl, rfl⟩ := qO ho
            simp only [go_sem, xQ, ↓reduceIte, xA, xM, xL, xT, xE, xN, xP, xR, xS, N1, N2, N3, N4, N5, N6, ho, eq_self_iff_true]
            refine callB_use (f70 f (by omega) fF2) rfl ?_
            simp only [go_sem, xQ, ↓reduceIte, xA, xM, xL, xT, xE, xN, xP, xR, xS, N1, N2, N3, N4, N5, N6, eq_self_iff_true]
            by_cases hv : alwE op = 0
            · obtain ⟨rfl, rfl⟩ := qA hv
              have hv' : withinE op 0 8 = 0 := hv
              simp only [go_sem, xQ, ↓reduceIte, xA, xM, xL, xT, xE, xN, xP, xR, xS, N1, N2, N3, N4, N5, N6, hv', hv, eq_self_iff_true]
              refine callB_use (f71 op) rfl ?_
              simp only [go_sem, xQ, ↓reduceIte, xA, xM, xL, xT, xE, xN, xP, xR, xS, N1, N2, N3, N4, N5, N6]
              refine callB_fz (f57 _ _ _ _ (by omega) fJ2) (whole_fz (.inl rfl)) ?_
              rw [whole_true tJ]
              simp only [go_sem, xQ, ↓reduceIte, xA, xM, xL, xT, xE, xN, xP, xR, xS, N1, N2, N3, N4, N5, N6]
              refine callB_fz (f57 _ _ _ _ (by omega) fO2) (whole_fz (.inl rfl)) ?_
              rw [whole_true tO]
              simp only [go_sem, xQ, ↓reduceIte, xA, xM, xL, xT, xE, xN, xP, xR, xS, N1, N2, N3, N4, N5, N6]
              refine callB_fz (f57 _ _ _ _ (by omega) fA2) (whole_fz (.inl rfl)) ?_
              rw [whole_true tA]
              simp only [go_sem, xQ, ↓reduceIte, xA, xM, xL, xT, xE, xN, xP, xR, xS, N1, N2, N3, N4, N5, N6]
              refine callB_use (f40 hG hG2 hG5) rfl ?_
              simp only [go_sem, xQ, ↓reduceIte, xA, xM, xL, xT, xE, xN, xP, xR, xS]
              exact retP_drop (by repeat (first | exact Drop.refl _ | assumption | refine Drop.upd ?_ (by assumption))) rfl
            · obtain ⟨rfl, rfl⟩ := pA hv
              have hv' : ¬ withinE op 0 8 = 0 := hv
              have hv3 : withinE op 0 8 = alwE op := rfl
              simp only [go_sem, xQ, ↓reduceIte, xA, xM, xL, xT, xE, xN, xP, xR, xS, N1, N2, N3, N4, N5, N6, hv', hv3, hv, eq_self_iff_true]
              refine callB_fz (f57 _ _ _ _ (by omega) fJ2) (whole_fz (.inl rfl)) ?_
              rw [whole_true tJ]
              simp only [go_sem, xQ, ↓reduceIte, xA, xM, xL, xT, xE, xN, xP, xR, xS, N1, N2, N3, N4, N5, N6]
              refine callB_fz (f57 _ _ _ _ (by omega) fO2) (whole_fz (.inl rfl)) ?_
              rw [whole_true tO]
              simp only [go_sem, xQ, ↓reduceIte, xA, xM, xL, xT, xE, xN, xP, xR, xS, N1, N2, N3, N4, N5, N6]
              refine callB_fz (f57 _ _ _ _ (by omega) fA2) (whole_fz (.inr ⟨rfl, rfl⟩)) ?_
              rw [whole_true tA]
              simp only [go_sem, xQ, ↓reduceIte, xA, xM, xL, xT, xE, xN, xP, xR, xS, N1, N2, N3, N4, N5, N6]
              refine callB_use (f40 hG hG2 hG5) rfl ?_
              simp only [go_sem, xQ, ↓reduceIte, xA, xM, xL, xT, xE, xN, xP, xR, xS]
              exact retP_drop (by repeat (first | exact Drop.refl _ | assumption | refine Drop.upd ?_ (by assumption))) rfl
          · obtain ⟨rfl, rfl⟩ := pO ho
            simp only [go_sem, xQ, ↓reduceIte, xA, xM, xL, xT, xE, xN, xP, xR, xS, N1, N2, N3, N4, N5, N6, ho, eq_self_iff_true]
            by_cases hv : alwE op = 0
            · obtain ⟨rfl, rfl⟩ := qA hv
              have hv' : withinE op 0 8 = 0 := hv
              simp only [go_sem, xQ, ↓reduceIte, xA, xM, xL, xT, xE, xN, xP, xR, xS, N1, N2, N3, N4, N5, N6, hv', hv, eq_self_iff_true]
              refine callB_use (f71 op) rfl ?_
              simp only [go_sem, xQ, ↓reduceIte, xA, xM, xL, xT, xE, xN, xP, xR, xS, N1, N2, N3, N4, N5, N6]
              refine callB_fz (f57 _ _ _ _ (by omega) fJ2) (whole_fz (.inl rfl)) ?_
              rw [whole_true tJ]
              simp only [go_sem, xQ, ↓reduceIte, xA, xM, xL, xT, xE, xN, xP, xR, xS, N1, N2, N3, N4, N5, N6]
              refine callB_fz (f57 _ _ _ _ (by omega) fO2) (whole_fz (.inr ⟨rfl, rfl⟩)) ?_
              rw [whole_true tO]
              simp only [go_sem, xQ, ↓reduceIte, xA, xM, xL, xT, xE, xN, xP, xR, xS, N1, N2, N3, N4, N5, N6]
              refine callB_fz (f57 _ _ _ _ (by omega) fA2) (whole_fz (.inl rfl)) ?_
              rw [whole_true tA]
              simp only [go_sem, xQ, ↓reduceIte, xA, xM, xL, xT, xE, xN, xP, xR, xS, N1, N2, N3, N4, N5, N6]
              refine callB_use (f40 hG hG2 hG5) rfl ?_
              simp only [go_sem, xQ, ↓reduceIte, xA, xM, xL, xT, xE, xN, xP, xR, xS]
              exact retP_drop (by repeat (first | exact Drop.refl _ | assumption | refine Drop.upd ?_ (by assumption))) rfl
            · obtain ⟨rfl, rfl⟩ := pA hv
              have hv' : ¬ withinE op 0 8 = 0 := hv
              have hv3 : withinE op 0 8 = alwE op := rfl
              simp only [go_sem, xQ, ↓reduceIte, xA, xM, xL, xT, xE, xN, xP, xR, xS, N1, N2, N3, N4, N5, N6, hv', hv3, hv, eq_self_iff_true]
              refine callB_fz (f57 _ _ _ _ (by omega) fJ2) (whole_fz (.inl rfl)) ?_
              rw [whole_true tJ]
              simp only [go_sem, xQ, ↓reduceIte, xA, xM, xL, xT, xE, xN, xP, xR, xS, N1, N2, N3, N4, N5, N6]
              refine callB_fz (f57 _ _ _ _ (by omega) fO2) (whole_fz (.inr ⟨rfl, rfl⟩)) ?_
              rw [whole_true tO]
              simp only [go_sem, xQ, ↓reduceIte, xA, xM, xL, xT, xE, xN, xP, xR, xS, N1, N2, N3, N4, N5, N6]
              refine callB_fz (f57 _ _ _ _ (by omega) fA2) (whole_fz (.inr ⟨rfl, rfl⟩)) ?_
              rw [whole_true tA]
              simp only [go_sem, xQ, ↓reduceIte, xA, xM, xL, xT, xE, xN, xP, xR, xS, N1, N2, N3, N4, N5, N6]
              refine callB_use (f40 hG hG2 hG5) rfl ?_
              simp only [go_sem, xQ, ↓reduceIte, xA, xM, xL, xT, xE, xN, xP, xR, xS]
              exact retP_drop (by repeat (first | exact Drop.refl _ | assumption | refine Drop.upd ?_ (by assumption))) rfl
        · obtain ⟨rfl, rfl⟩ := pJ hj
          simp only [go_sem, xQ, ↓reduceIte, xA, xM, xL, xT, xE, xN, xP, xR, xS, N1, N2, N3, N4, N5, N6, hJe, hj, T3]
          by_cases ho : checkE f = 0
          · obtain ⟨rfl, rfl⟩ := qO ho
            simp only [go_sem, xQ, ↓reduceIte, xA, xM, xL, xT, xE, xN, xP, xR, xS, N1, N2, N3, N4, N5, N6, ho, hj]
            refine callB_use (f70 f (by omega) fF2) rfl ?_
            simp only [go_sem, xQ, ↓reduceIte, xA, xM, xL, xT, xE, xN, xP, xR, xS, N1, N2, N3, N4, N5, N6, hj]
            by_cases hv : alwE op = 0
            · obtain ⟨rfl, rfl⟩ := qA hv
              have hv' : withinE op 0 8 = 0 := hv
              simp only [go_sem, xQ, ↓reduceIte, xA, xM, xL, xT, xE, xN, xP, xR, xS, N1, N2, N3, N4, N5, N6, hv', hv, hj]
              refine callB_use (f71 op) rfl ?_
              simp only [go_sem, xQ, ↓reduceIte, xA, xM, xL, xT, xE, xN, xP, xR, xS, N1, N2, N3, N4, N5, N6]
              refine callB_fz (f57 _ _ _ _ (by omega) fJ2) (whole_fz (.inr ⟨rfl, rfl⟩)) ?_
              rw [whole_true tJ]
              simp only [go_sem, xQ, ↓reduceIte, xA, xM, xL, xT, xE, xN, xP, xR, xS, N1, N2, N3, N4, N5, N6]
              refine callB_fz (f57 _ _ _ _ (by omega) fO2) (whole_fz (.inl rfl)) ?_
              rw [whole_true tO]
              simp only [go_sem, xQ, ↓reduceIte, xA, xM, xL, xT, xE, xN, xP, xR, xS, N1, N2, N3, N4, N5, N6]
              refine callB_fz (f57 _ _ _ _ (by omega) fA2) (whole_fz (.inl rfl)) ?_
              rw [whole_true tA]
              simp only [go_sem, xQ, ↓reduceIte, xA, xM, xL, xT, xE, xN, xP, xR, xS, N1, N2, N3, N4, N5, N6]
              refine callB_use (f40 hG hG2 hG5) rfl ?_
              simp only [go_sem, xQ, ↓reduceIte, xA, xM, xL, xT, xE, xN, xP, xR, xS]
              exact retP_drop (by repeat (first | exact Drop.refl _ | assumption | refine Drop.upd ?_ (by assumption))) rfl
            · obtain ⟨rfl, rfl⟩ := pA hv
              have hv' : ¬ withinE op 0 8 = 0 := hv
              have hv3 : withinE op 0 8 = alwE op := rfl
              simp only [go_sem, xQ, ↓reduceIte, xA, xM, xL, xT, xE, xN, xP, xR, xS, N1, N2, N3, N4, N5, N6, hv', hv3, hv, hj]
              refine callB_fz (f57 _ _ _ _ (by omega) fJ2) (whole_fz (.inr ⟨rfl, rfl⟩)) ?_
              rw [whole_true tJ]
              simp only [go_sem, xQ, ↓reduceIte, xA, xM, xL, xT, xE, xN, xP, xR, xS, N1, N2, N3, N4, N5, N6]
              refine callB_fz (f57 _ _ _ _ (by omega) fO2) (whole_fz (.inl rfl)) ?_
              rw [whole_true tO]
              simp only [go_sem, xQ, ↓reduceIte, xA, xM, xL, xT, xE, xN, xP, xR, xS, N1, N2, N3, N4, N5, N6]
              refine callB_fz (f57 _ _ _ _ (by omega) fA2) (whole_fz (.inr ⟨rfl, rfl⟩)) ?_
              rw [whole_true tA]
              simp only [go_sem, xQ, ↓reduceIte, xA, xM, xL, xT, xE, xN, xP, xR, xS, N1, N2, N3, N4, N5, N6]
              refine callB_use (f40 hG hG2 hG5) rfl ?_
              simp only [go_sem, xQ, ↓reduceIte, xA, xM, xL, xT, xE, xN, xP, xR, xS]
              exact retP_drop (by repeat (first | exact Drop.refl _ | assumption | refine Drop.upd ?_ (by assumption))) rfl
          · obtain ⟨rfl, rfl⟩ := pO ho
            simp only [go_sem, xQ, ↓reduceIte, xA, xM, xL, xT, xE, xN, xP, xR, xS, N1, N2, N3, N4, N5, N6, ho, hj]
            by_cases hv : alwE op = 0
            · obtain ⟨rfl, rfl⟩ := qA hv
              have hv' : withinE op 0 8 = 0 := hv
              simp only [go_sem, xQ, ↓reduceIte, xA, xM, xL, xT, xE, xN, xP, xR, xS, N1, N2, N3, N4, N5, N6, hv', hv, hj]
              refine callB_use (f71 op) rfl ?_
              simp only [go_sem, xQ, ↓reduceIte, xA, xM, xL, xT, xE, xN, xP, xR, xS, N1, N2, N3, N4, N5, N6]
              refine callB_fz (f57 _ _ _ _ (by omega) fJ2) (whole_fz (.inr ⟨rfl, rfl⟩)) ?_
              rw [whole_true tJ]
              simp only [go_sem, xQ, ↓reduceIte, xA, xM, xL, xT, xE, xN, xP, xR, xS, N1, N2, N3, N4, N5, N6]
              refine callB_fz (f57 _ _ _ _ (by omega) fO2) (whole_fz (.inr ⟨rfl, rfl⟩)) ?_
              rw [whole_true tO]
              simp only [go_sem, xQ, ↓reduceIte, xA, xM, xL, xT, xE, xN, xP, xR, xS, N1, N2, N3, N4, N5, N6]
              refine callB_fz (f57 _ _ _ _ (by omega) fA2) (whole_fz (.inl rfl)) ?_
              rw [whole_true tA]
              simp only [go_sem, xQ, ↓reduceIte, xA, xM, xL, xT, xE, xN, xP, xR, xS, N1, N2, N3, N4, N5, N6]
              refine callB_use (f40 hG hG2 hG5) rfl ?_
              simp only [go_sem, xQ, ↓reduceIte, xA, xM, xL, xT, xE, xN, xP, xR, xS]
              exact retP_drop (by repeat (first | exact Drop.refl _ | assumption | refine Drop.upd ?_ (by assumption))) rfl
            · obtain ⟨rfl, rfl⟩ := pA hv
              have hv' : ¬ withinE op 0 8 = 0 := hv
              have hv3 : withinE op 0 8 = alwE op := rfl
              simp only [go_sem, xQ, ↓reduceIte, xA, xM, xL, xT, xE, xN, xP, xR, xS, N1, N2, N3, N4, N5, N6, hv', hv3, hv, hj]
              refine callB_fz (f57 _ _ _ _ (by omega) fJ2) (whole_fz (.inr ⟨rfl, rfl⟩)) ?_
              rw [whole_true tJ]
              simp only [go_sem, xQ, ↓reduceIte, xA, xM, xL, xT, xE, xN, xP, xR, xS, N1, N2, N3, N4, N5, N6]
              refine callB_fz (f57 _ _ _ _ (by omega) fO2) (whole_fz (.inr ⟨rfl, rfl⟩)) ?_
              rw [whole_true tO]
              simp only [go_sem, xQ, ↓reduceIte, xA, xM, xL, xT, xE, xN, xP, xR, xS, N1, N2, N3, N4, N5, N6]
              refine callB_fz (f57 _ _ _ _ (by omega) fA2) (whole_fz (.inr ⟨rfl, rfl⟩)) ?_
              rw [whole_true tA]
              simp only [go_sem, xQ, ↓reduceIte, xA, xM, xL, xT, xE, xN, xP, xR, xS, N1, N2, N3, N4, N5, N6]
              refine callB_use (f40 hG hG2 hG5) rfl ?_
              simp only [go_sem, xQ, ↓reduceIte, xA, xM, xL, xT, xE, xN, xP, xR, xS]
              exact retP_drop (by repeat (first | exact Drop.refl _ | assumption | refine Drop.upd ?_ (by assumption))) rfl
      · by_cases h4 : op = 4
        · have T4 := eq_true h4
          simp only [go_sem, xQ, ↓reduceIte, xA, xM, xL, xT, xE, xN, xP, xR, xS, N1, N2, N3, N4, N5, h3, T4]
          refine dcallB_use (f67 _ _) rfl ?_
          simp only [go_sem, xQ, ↓reduceIte, xA, xM, xL, xT, xE, xN, xP, xR, xS, N1, N2, N3, N4, N5, h3, T4]
          refine dcallB_use (f44 f (by omega) fF2) rfl ?_
          simp only [go_sem, xQ, ↓reduceIte, xA, xM, xL, xT, xE, xN, xP, xR, xS, N1, N2, N3, N4, N5, h3, T4]
          refine callB_use (f44 g (by omega) fG2) rfl ?_
          simp only [go_sem, xQ, ↓reduceIte, xA, xM, xL, xT, xE, xN, xP, xR, xS, N1, N2, N3, N4, N5, h3, T4]
          refine callB_use (f33 [whenE false 11, checkE f, checkE g] (by simp)) rfl ?_
          simp only [go_sem, xQ, ↓reduceIte, xA, xM, xL, xT, xE, xN, xP, xR, xS, N1, N2, N3, N4, N5, h3, T4]
          refine callB_use (f44 f (by omega) fF2) rfl ?_
          simp only [go_sem, xQ, ↓reduceIte, xA, xM, xL, xT, xE, xN, xP, xR, xS, N1, N2, N3, N4, N5, h3, T4]
          refine callB_use (f68 op) rfl ?_
          simp only [go_sem, xQ, ↓reduceIte, xA, xM, xL, xT, xE, xN, xP, xR, xS, N1, N2, N3, N4, N5, h3, T4]
          intro b16 hb16
          obtain ⟨n16c, hb16⟩ := un2 hb16
          obtain ⟨n16b, hb16⟩ := un2 hb16
          obtain ⟨n16a, hb16⟩ := un2 hb16
          simp only [go_sem, xQ, ↓reduceIte, xA, xM, xL, xT, xE, xN, xP, xR, xS, N1, N2, N3, N4, N5, n16a, n16b, n16c, h3, T4]
          intro b17 hb17
          obtain ⟨n17d, hb17⟩ := un2 hb17
          obtain ⟨n17c, hb17⟩ := un2 hb17
          obtain ⟨n17b, hb17⟩ := un2 hb17
          obtain ⟨n17a, hb17⟩ := un2 hb17
          simp only [go_sem, xQ, ↓reduceIte, xA, xM, xL, xT, xE, xN, xP, xR, xS, N1, N2, N3, N4, N5, n16a, n16b, n16c, n17a, n17b, n17c, n17d, h3, T4]
          intro b18 hb18
          obtain ⟨n18e, hb18⟩ := un2 hb18
          obtain ⟨n18d, hb18⟩ := un2 hb18
          obtain ⟨n18c, hb18⟩ := un2 hb18
          obtain ⟨n18b, hb18⟩ := un2 hb18
          obtain ⟨n18a, hb18⟩ := un2 hb18
          have N6 := And.intro (And.intro n16a (And.intro n16b n16c)) (And.intro (And.intro n17a (And.intro n17b (And.intro n17c n17d))) (And.intro n18a (And.intro n18b (And.intro n18c (And.intro n18d n18e)))))
          have hJe := hJ false (by simp [h4])
          simp only [go_sem, xQ, ↓reduceIte, xA, xM, xL, xT, xE, xN, xP, xR, xS, N1, N2, N3, N4, N5, N6, hJe, h3, T4]
          by_cases hj : jE op f g = 0
          · obtain ⟨rfl, rfl⟩ := qJ hj
            simp only [go_sem, xQ, ↓reduceIte, xA, xM, xL, xT, xE, xN, xP, xR, xS, N1, N2, N3, N4, N5, N6, hJe, hj, h3, T4]
            refine callB_use (f69 op f g (by omega) fF2 (by omega) fG2) rfl ?_
            simp only [go_sem, xQ, ↓reduceIte, xA, xM, xL, xT, xE, xN, xP, xR, xS, N1, N2, N3, N4, N5, N6, h3, T4]
            by_cases ho : checkE f = 0
            · obtain ⟨rfl, rfl⟩ := qO ho
              simp only [go_sem, xQ, ↓reduceIte, xA, xM, xL, xT, xE, xN, xP, xR, xS, N1, N2, N3, N4, N5, N6, ho, eq_self_iff_true]
              refine callB_use (f70 f (by omega) fF2) rfl ?_
              simp only [go_sem, xQ, ↓reduceIte, xA, xM, xL, xT, xE, xN, xP, xR, xS, N1, N2, N3, N4, N5, N6, eq_self_iff_true]
              by_cases hv : alwE op = 0
              · obtain ⟨rfl, rfl⟩ := qA hv
                have hv' : withinE op 0 8 = 0 := hv
                simp only [go_sem, xQ, ↓reduceIte, xA, xM, xL, xT, xE, xN, xP, xR, xS, N1, N2, N3, N4, N5, N6, hv', hv, eq_self_iff_true]
                refine callB_use (f71 op) rfl ?_
                simp only [go_sem, xQ, ↓reduceIte, xA, xM, xL, xT, xE, xN, xP, xR, xS, N1, N2, N3, N4, N5, N6]
                refine callB_fz (f57 _ _ _ _ (by omega) fJ2) (whole_fz (.inl rfl)) ?_
                rw [whole_true tJ]
                simp only [go_sem, xQ, ↓reduceIte, xA, xM, xL, xT, xE, xN, xP, xR, xS, N1, N2, N3, N4, N5, N6]
                refine callB_fz (f57 _ _ _ _ (by omega) fO2) (whole_fz (.inl rfl)) ?_
                rw [whole_true tO]
                simp only [go_sem, xQ, ↓reduceIte, xA, xM, xL, xT, xE, xN, xP, xR, xS, N1, N2, N3, N4, N5, N6]
                refine callB_fz (f57 _ _ _ _ (by omega) fA2) (whole_fz (.inl rfl)) ?_
                rw [whole_true tA]
                simp only [go_sem, xQ, ↓reduceIte, xA, xM, xL, xT, xE, xN, xP, xR, xS, N1, N2, N3, N4, N5, N6]
                refine callB_use (f40 hG hG2 hG5) rfl ?_
                simp only [go_sem, xQ, ↓reduceIte, xA, xM, xL, xT, xE, xN, xP, xR, xS]
                exact retP_drop (by repeat (first | exact Drop.refl _ | assumption | refine Drop.upd ?_ (by assumption))) rfl
              · obtain ⟨rfl, rfl⟩ := pA hv
                have hv' : ¬ withinE op 0 8 = 0 := hv
                have hv3 : withinE op 0 8 = alwE op := rfl
                simp only [go_sem, xQ, ↓reduceIte, xA, xM, xL, xT, xE, xN, xP, xR, xS, N1, N2, N3, N4, N5, N6, hv', hv3, hv, eq_self_iff_true]
                refine callB_fz (f57 _ _ _ _ (by omega) fJ2) (whole_fz (.inl rfl)) ?_
                rw [whole_true tJ]
                simp only [go_sem, xQ, ↓reduceIte, xA, xM, xL, xT, xE, xN, xP, xR, xS, N1, N2, N3, N4, N5, N6]
                refine callB_fz (f57 _ _ _ _ (by omega) fO2) (whole_fz (.inl rfl)) ?_
                rw [whole_true tO]
                simp only [go_sem, xQ, ↓reduceIte, xA, xM, xL, xT, xE, xN, xP, xR, xS, N1, N2, N3, N4, N5, N6]
                refine callB_fz (f57 _ _ _ _ (by omega) fA2) (whole_fz (.inr ⟨rfl, rfl⟩)) ?_
                rw [whole_true tA]
                simp only [go_sem, xQ, ↓reduceIte, xA, xM, xL, xT, xE, xN, xP, xR, xS, N1, N2, N3, N4, N5, N6]
                refine callB_use (f40 hG hG2 hG5) rfl ?_
                simp only [go_sem, xQ, ↓reduceIte, xA, xM, xL, xT, xE, xN, xP, xR, xS]
                exact retP_drop (by repeat (first | exact Drop.refl _ | assumption | refine Drop.upd ?_ (by assumption))) rfl
            · obtain ⟨rfl, rfl⟩ := pO ho
              simp only [go_sem, xQ, ↓reduceIte, xA, xM, xL, xT, xE, xN, xP, xR, xS, N1, N2, N3, N4, N5, N6, ho, eq_self_iff_true]
              by_cases hv : alwE op = 0
              · obtain ⟨rfl, rfl⟩ := qA hv
                have hv' : withinE op 0 8 = 0 := hv
                simp only [go_sem, xQ, ↓reduceIte, xA, xM, xL, xT, xE, xN, xP, xR, xS, N1, N2, N3, N4, N5, N6, hv', hv, eq_self_iff_true]
                refine callB_use (f71 op) rfl ?_
                simp only [go_sem, xQ, ↓reduceIte, xA, xM, xL, xT, xE, xN, xP, xR, xS, N1, N2, N3, N4, N5, N6]
                refine callB_fz (f57 _ _ _ _ (by omega) fJ2) (whole_fz (.inl rfl)) ?_
                rw [whole_true tJ]
                simp only [go_sem, xQ, ↓reduceIte, xA, xM, xL, xT, xE, xN, xP, xR, xS, N1, N2, N3, N4, N5, N6]
                refine callB_fz (f57 _ _ _ _ (by omega) fO2) (whole_fz (.inr ⟨rfl, rfl⟩)) ?_
                rw [whole_true tO]
                simp only [go_sem, xQ, ↓reduceIte, xA, xM, xL, xT, xE, xN, xP, xR, xS, N1, N2, N3, N4, N5, N6]
                refine callB_fz (f57 _ _ _ _ (by omega) fA2) (whole_fz (.inl rfl)) ?_
                rw [whole_true tA]
                simp only [go_sem, xQ, ↓reduceIte, xA, xM, xL, xT, xE, xN, xP, xR, xS, N1, N2, N3, N4, N5, N6]
                refine callB_use (f40 hG hG2 hG5) rfl ?_
                simp only [go_sem, xQ, ↓reduceIte, xA, xM, xL, xT, xE, xN, xP, xR, xS]
                exact retP_drop (by repeat (first | exact Drop.refl _ | assumption | refine Drop.upd ?_ (by assumption))) rfl
              · obtain ⟨rfl, rfl⟩ := pA hv
                have hv' : ¬ withinE op 0 8 = 0 := hv
                have hv3 : withinE op 0 8 = alwE op := rfl
                simp only [go_sem, xQ, ↓reduceIte, xA, xM, xL, xT, xE, xN, xP, xR, xS, N1, N2, N3, N4, N5, N6, hv', hv3, hv, eq_self_iff_true]
                refine callB_fz (f57 _ _ _ _ (by omega) fJ2) (whole_fz (.inl rfl)) ?_
                rw [whole_true tJ]
                simp only [go_sem, xQ, ↓reduceIte, xA, xM, xL, xT, xE, xN, xP, xR, xS, N1, N2, N3, N4, N5, N6]
                refine callB_fz (f57 _ _ _ _ (by omega) fO2) (whole_fz (.inr ⟨rfl, rfl⟩)) ?_
                rw [whole_true tO]
                simp only [go_sem, xQ, ↓reduceIte, xA, xM, xL, xT, xE, xN, xP, xR, xS, N1, N2, N3, N4, N5, N6]
                refine callB_fz (f57 _ _ _ _ (by omega) fA2) (whole_fz (.inr ⟨rfl, rfl⟩)) ?_
                rw [whole_true tA]
                simp only [go_sem, xQ, ↓reduceIte, xA, xM, xL, xT, xE, xN, xP, xR, xS, N1, N2, N3, N4, N5, N6]
                refine callB_use (f40 hG hG2 hG5) rfl ?_
                simp only [go_sem, xQ, ↓reduceIte, xA, xM, xL, xT, xE, xN, xP, xR, xS]
                exact retP_drop (by repeat (first | exact Drop.refl _ | assumption | refine Drop.upd ?_ (by assumption))) rfl
          · obtain ⟨rfl, rfl⟩ := pJ hj
            simp only [go_sem, xQ, ↓reduceIte, xA, xM, xL, xT, xE, xN, xP, xR, xS, N1, N2, N3, N4, N5, N6, hJe, hj, h3, T4]
            by_cases ho : checkE f = 0
            · obtain ⟨rfl, rfl⟩ := qO ho
              simp only [go_sem, xQ, ↓reduceIte, xA, xM, xL, xT, xE, xN, xP, xR, xS, N1, N2, N3, N4, N5, N6, ho, hj]
              refine callB_use (f70 f (by omega) fF2) rfl ?_
              simp only [go_sem, xQ, ↓reduceIte, xA, xM, xL, xT, xE, xN, xP, xR, xS, N1, N2, N3, N4, N5, N6, hj]
              by_cases hv : alwE op = 0
              · obtain ⟨rfl, rfl⟩ := qA hv
                have hv' : withinE op 0 8 = 0 := hv
                simp only [go_sem, xQ, ↓reduceIte, xA, xM, xL, xT, xE, xN, xP, xR, xS, N1, N2, N3, N4, N5, N6, hv', hv, hj]
                refine callB_use (f71 op) rfl ?_
                simp only [go_sem, xQ, ↓reduceIte, xA, xM, xL, xT, xE, xN, xP, xR, xS, N1, N2, N3, N4, N5, N6]
                refine callB_fz (f57 _ _ _ _ (by omega) fJ2) (whole_fz (.inr ⟨rfl, rfl⟩)) ?_
                rw [whole_true tJ]
                simp only [go_sem, xQ, ↓reduceIte, xA, xM, xL, xT, xE, xN, xP, xR, xS, N1, N2, N3, N4, N5, N6]
                refine callB_fz (f57 _ _ _ _ (by omega) fO2) (whole_fz (.inl rfl)) ?_
                rw [whole_true tO]
                simp only [go_sem, xQ, ↓reduceIte, xA, xM, xL, xT, xE, xN, xP, xR, xS, N1, N2, N3, N4, N5, N6]
                refine callB_fz (f57 _ _ _ _ (by omega) fA2) (whole_fz (.inl rfl)) ?_
                rw [whole_true tA]
                simp only [go_sem, xQ, ↓reduceIte, xA, xM, xL, xT, xE, xN, xP, xR, xS, N1, N2, N3, N4, N5, N6]
                refine callB_use (f40 hG hG2 hG5) rfl ?_
                simp only [go_sem, xQ, ↓reduceIte, xA, xM, xL, xT, xE, xN, xP, xR, xS]
                exact retP_drop (by repeat (first | exact Drop.refl _ | assumption | refine Drop.upd ?_ (by assumption))) rfl
              · obtain ⟨rfl, rfl⟩ := pA hv
                have hv' : ¬ withinE op 0 8 = 0 := hv
                have hv3 : withinE op 0 8 = alwE op := rfl
                simp only [go_sem, xQ, ↓reduceIte, xA, xM, xL, xT, xE, xN, xP, xR, xS, N1, N2, N3, N4, N5, N6, hv', hv3, hv, hj]
                refine callB_fz (f57 _ _ _ _ (by omega) fJ2) (whole_fz (.inr ⟨rfl, rfl⟩)) ?_
                rw [whole_true tJ]
                simp only [go_sem, xQ, ↓reduceIte, xA, xM, xL, xT, xE, xN, xP, xR, xS, N1, N2, N3, N4, N5, N6]
                refine callB_fz (f57 _ _ _ _ (by omega) fO2) (whole_fz (.inl rfl)) ?_
                rw [whole_true tO]
                simp only [go_sem, xQ, ↓reduceIte, xA, xM, xL, xT, xE, xN, xP, xR, xS, N1, N2, N3, N4, N5, N6]
                refine callB_fz (f57 _ _ _ _ (by omega) fA2) (whole_fz (.inr ⟨rfl, rfl⟩)) ?_
                rw [whole_true tA]
                simp only [go_sem, xQ, ↓reduceIte, xA, xM, xL, xT, xE, xN, xP, xR, xS, N1, N2, N3, N4, N5, N6]
                refine callB_use (f40 hG hG2 hG5) rfl ?_
                simp only [go_sem, xQ, ↓reduceIte, xA, xM, xL, xT, xE, xN, xP, xR, xS]
                exact retP_drop (by repeat (first | exact Drop.refl _ | assumption | refine Drop.upd ?_ (by assumption))) rfl
            · obtain ⟨rfl, rfl⟩ := pO ho
              simp only [go_sem, xQ, ↓reduceIte, xA, xM, xL, xT, xE, xN, xP, xR, xS, N1, N2, N3, N4, N5, N6, ho, hj]
              by_cases hv : alwE op = 0
              · obtain ⟨rfl, rfl⟩ := qA hv
                have hv' : withinE op 0 8 = 0 := hv
                simp only [go_sem, xQ, ↓reduceIte, xA, xM, xL, xT, xE, xN, xP, xR, xS, N1, N2, N3, N4, N5, N6, hv', hv, hj]
                refine callB_use (f71 op) rfl ?_
                simp only [go_sem, xQ, ↓reduceIte, xA, xM, xL, xT, xE, xN, xP, xR, xS, N1, N2, N3, N4, N5, N6]
                refine callB_fz (f57 _ _ _ _ (by omega) fJ2) (whole_fz (.inr ⟨rfl, rfl⟩)) ?_
                rw [whole_true tJ]
                simp only [go_sem, xQ, ↓reduceIte, xA, xM, xL, xT, xE, xN, xP, xR, xS, N1, N2, N3, N4, N5, N6]
                refine callB_fz (f57 _ _ _ _ (by omega) fO2) (whole_fz (.inr ⟨rfl, rfl⟩)) ?_
                rw [whole_true tO]
                simp only [go_sem, xQ, ↓reduceIte, xA, xM, xL, xT, xE, xN, xP, xR, xS, N1, N2, N3, N4, N5, N6]
                refine callB_fz (f57 _ _ _ _ (by omega) fA2) (whole_fz (.inl rfl)) ?_
                rw [whole_true tA]
                simp only [go_sem, xQ, ↓reduceIte, xA, xM, xL, xT, xE, xN, xP, xR, xS, N1, N2, N3, N4, N5, N6]
                refine callB_use (f40 hG hG2 hG5) rfl ?_
                simp only [go_sem, xQ, ↓reduceIte, xA, xM, xL, xT, xE, xN, xP, xR, xS]
                exact retP_drop (by repeat (first | exact Drop.refl _ | assumption | refine Drop.upd ?_ (by assumption))) rfl
              · obtain ⟨rfl, rfl⟩ := pA hv
                have hv' : ¬ withinE op 0 8 = 0 := hv
                have hv3 : withinE op 0 8 = alwE op := rfl
                simp only [go_sem, xQ, ↓reduceIte, xA, xM, xL, xT, xE, xN, xP, xR, xS, N1, N2, N3, N4, N5, N6, hv', hv3, hv, hj]
                refine callB_fz (f57 _ _ _ _ (by omega) fJ2) (whole_fz (.inr ⟨rfl, rfl⟩)) ?_
                rw [whole_true tJ]
                simp only [go_sem, xQ, ↓reduceIte, xA, xM, xL, xT, xE, xN, xP, xR, xS, N1, N2, N3, N4, N5, N6]
                refine callB_fz (f57 _ _ _ _ (by omega) fO2) (whole_fz (.inr ⟨rfl, rfl⟩)) ?_
                rw [whole_true tO]
                simp only [go_sem, xQ, ↓reduceIte, xA, xM, xL, xT, xE, xN, xP, xR, xS, N1, N2, N3, N4, N5, N6]
                refine callB_fz (f57 _ _ _ _ (by omega) fA2) (whole_fz (.inr ⟨rfl, rfl⟩)) ?_
                rw [whole_true tA]
                simp only [go_sem, xQ, ↓reduceIte, xA, xM, xL, xT, xE, xN, xP, xR, xS, N1, N2, N3, N4, N5, N6]
                refine callB_use (f40 hG hG2 hG5) rfl ?_
                simp only [go_sem, xQ, ↓reduceIte, xA, xM, xL, xT, xE, xN, xP, xR, xS]
                exact retP_drop (by repeat (first | exact Drop.refl _ | assumption | refine Drop.upd ?_ (by assumption))) rfl
        · simp only [go_sem, xQ, ↓reduceIte, xA, xM, xL, xT, xE, xN, xP, xR, xS, N1, N2, N3, N4, N5, h3, h4]
          refine dcallB_use (f67 _ _) rfl ?_
          simp only [go_sem, xQ, ↓reduceIte, xA, xM, xL, xT, xE, xN, xP, xR, xS, N1, N2, N3, N4, N5, h3, h4]
          refine dcallB_use (f44 f (by omega) fF2) rfl ?_
          simp only [go_sem, xQ, ↓reduceIte, xA, xM, xL, xT, xE, xN, xP, xR, xS, N1, N2, N3, N4, N5, h3, h4]
          refine callB_use (f44 g (by omega) fG2) rfl ?_
          simp only [go_sem, xQ, ↓reduceIte, xA, xM, xL, xT, xE, xN, xP, xR, xS, N1, N2, N3, N4, N5, h3, h4]
          refine callB_use (f33 [whenE true 11, checkE f, checkE g] (by simp)) rfl ?_
          simp only [go_sem, xQ, ↓reduceIte, xA, xM, xL, xT, xE, xN, xP, xR, xS, N1, N2, N3, N4, N5, h3, h4]
          refine callB_use (f44 f (by omega) fF2) rfl ?_
          simp only [go_sem, xQ, ↓reduceIte, xA, xM, xL, xT, xE, xN, xP, xR, xS, N1, N2, N3, N4, N5, h3, h4]
          refine callB_use (f68 op) rfl ?_
          simp only [go_sem, xQ, ↓reduceIte, xA, xM, xL, xT, xE, xN, xP, xR, xS, N1, N2, N3, N4, N5, h3, h4]
          intro b16 hb16
          obtain ⟨n16c, hb16⟩ := un2 hb16
          obtain ⟨n16b, hb16⟩ := un2 hb16
          obtain ⟨n16a, hb16⟩ := un2 hb16
          simp only [go_sem, xQ, ↓reduceIte, xA, xM, xL, xT, xE, xN, xP, xR, xS, N1, N2, N3, N4, N5, n16a, n16b, n16c, h3, h4]
          intro b17 hb17
          obtain ⟨n17d, hb17⟩ := un2 hb17
          obtain ⟨n17c, hb17⟩ := un2 hb17
          obtain ⟨n17b, hb17⟩ := un2 hb17
          obtain ⟨n17a, hb17⟩ := un2 hb17
          simp only [go_sem, xQ, ↓reduceIte, xA, xM, xL, xT, xE, xN, xP, xR, xS, N1, N2, N3, N4, N5, n16a, n16b, n16c, n17a, n17b, n17c, n17d, h3, h4]
          intro b18 hb18
          obtain ⟨n18e, hb18⟩ := un2 hb18
          obtain ⟨n18d, hb18⟩ := un2 hb18
          obtain ⟨n18c, hb18⟩ := un2 hb18
          obtain ⟨n18b, hb18⟩ := un2 hb18
          obtain ⟨n18a, hb18⟩ := un2 hb18
          have N6 := And.intro (And.intro n16a (And.intro n16b n16c)) (And.intro (And.intro n17a (And.intro n17b (And.intro n17c n17d))) (And.intro n18a (And.intro n18b (And.intro n18c (And.intro n18d n18e)))))
          have hJe := hJ true (by simp [h3, h4])
          simp only [go_sem, xQ, ↓reduceIte, xA, xM, xL, xT, xE, xN, xP, xR, xS, N1, N2, N3, N4, N5, N6, hJe, h3, h4]
          by_cases hj : jE op f g = 0
          · obtain ⟨rfl, rfl⟩ := qJ hj
            simp only [go_sem, xQ, ↓reduceIte, xA, xM, xL, xT, xE, xN, xP, xR, xS, N1, N2, N3, N4, N5, N6, hJe, hj, h3, h4]
            refine callB_use (f69 op f g (by omega) fF2 (by omega) fG2) rfl ?_
            simp only [go_sem, xQ, ↓reduceIte, xA, xM, xL, xT, xE, xN, xP, xR, xS, N1, N2, N3, N4, N5, N6, h3, h4]
            by_cases ho : checkE f = 0
            · obtain ⟨rfl, rfl⟩ := qO ho
              simp only [go_sem, xQ, ↓reduceIte, xA, xM, xL, xT, xE, xN, xP, xR, xS, N1, N2, N3, N4, N5, N6, ho, eq_self_iff_true]
              refine callB_use (f70 f (by omega) fF2) rfl ?_
              simp only [go_sem, xQ, ↓reduceIte, xA, xM, xL, xT, xE, xN, xP, xR, xS, N1, N2, N3, N4, N5, N6, eq_self_iff_true]
              by_cases hv : alwE op = 0
              · obtain ⟨rfl, rfl⟩ := qA hv
                have hv' : withinE op 0 8 = 0 := hv
                simp only [go_sem, xQ, ↓reduceIte, xA, xM, xL, xT, xE, xN, xP, xR, xS, N1, N2, N3, N4, N5, N6, hv', hv, eq_self_iff_true]
                refine callB_use (f71 op) rfl ?_
                simp only [go_sem, xQ, ↓reduceIte, xA, xM, xL, xT, xE, xN, xP, xR, xS, N1, N2, N3, N4, N5, N6]
                refine callB_fz (f57 _ _ _ _ (by omega) fJ2) (whole_fz (.inl rfl)) ?_
                rw [whole_true tJ]
                simp only [go_sem, xQ, ↓reduceIte, xA, xM, xL, xT, xE, xN, xP, xR, xS, N1, N2, N3, N4, N5, N6]
                refine callB_fz (f57 _ _ _ _ (by omega) fO2) (whole_fz (.inl rfl)) ?_
                rw [whole_true tO]
                simp only [go_sem, xQ, ↓reduceIte, xA, xM, xL, xT, xE, xN, xP, xR, xS, N1, N2, N3, N4, N5, N6]
                refine callB_fz (f57 _ _ _ _ (by omega) fA2) (whole_fz (.inl rfl)) ?_
                rw [whole_true tA]
                simp only [go_sem, xQ, ↓reduceIte, xA, xM, xL, xT, xE, xN, xP, xR, xS, N1, N2, N3, N4, N5, N6]
                refine callB_use (f40 hG hG2 hG5) rfl ?_
                simp only [go_sem, xQ, ↓reduceIte, xA, xM, xL, xT, xE, xN, xP, xR, xS]
                exact retP_drop (by repeat (first | exact Drop.refl _ | assumption | refine Drop.upd ?_ (by assumption))) rfl
              · obtain ⟨rfl, rfl⟩ := pA hv
                have hv' : ¬ withinE op 0 8 = 0 := hv
                have hv3 : withinE op 0 8 = alwE op := rfl
                simp only [go_sem, xQ, ↓reduceIte, xA, xM, xL, xT, xE, xN, xP, xR, xS, N1, N2, N3, N4, N5, N6, hv', hv3, hv, eq_self_iff_true]
                refine callB_fz (f57 _ _ _ _ (by omega) fJ2) (whole_fz (.inl rfl)) ?_
                rw [whole_true tJ]
                simp only [go_sem, xQ, ↓reduceIte, xA, xM, xL, xT, xE, xN, xP, xR, xS, N1, N2, N3, N4, N5, N6]
                refine callB_fz (f57 _ _ _ _ (by omega) fO2) (whole_fz (.inl rfl)) ?_
                rw [whole_true tO]
                simp only [go_sem, xQ, ↓reduceIte, xA, xM, xL, xT, xE, xN, xP, xR, xS, N1, N2, N3, N4, N5, N6]
                refine callB_fz (f57 _ _ _ _ (by omega) fA2) (whole_fz (.inr ⟨rfl, rfl⟩)) ?_
                rw [whole_true tA]
                simp only [go_sem, xQ, ↓reduceIte, xA, xM, xL, xT, xE, xN, xP, xR, xS, N1, N2, N3, N4, N5, N6]
                refine callB_use (f40 hG hG2 hG5) rfl ?_
                simp only [go_sem, xQ, ↓reduceIte, xA, xM, xL, xT, xE, xN, xP, xR, xS]
                exact retP_drop (by repeat (first | exact Drop.refl _ | assumption | refine Drop.upd ?_ (by assumption))) rfl
            · obtain ⟨rfl, rfl⟩ := pO ho
              simp only [go_sem, xQ, ↓reduceIte, xA, xM, xL, xT, xE, xN, xP, xR, xS, N1, N2, N3, N4, N5, N6, ho, eq_self_iff_true]
              by_cases hv : alwE op = 0
              · obtain ⟨rfl, rfl⟩ := qA hv
                have hv' : withinE op 0 8 = 0 := hv
                simp only [go_sem, xQ, ↓reduceIte, xA, xM, xL, xT, xE, xN, xP, xR, xS, N1, N2, N3, N4, N5, N6, hv', hv, eq_self_iff_true]
                refine callB_use (f71 op) rfl ?_
                simp only [go_sem, xQ, ↓reduceIte, xA, xM, xL, xT, xE, xN, xP, xR, xS, N1, N2, N3, N4, N5, N6]
                refine callB_fz (f57 _ _ _ _ (by omega) fJ2) (whole_fz (.inl rfl)) ?_
                rw [whole_true tJ]
                simp only [go_sem, xQ, ↓reduceIte, xA, xM, xL, xT, xE, xN, xP, xR, xS, N1, N2, N3, N4, N5, N6]
                refine callB_fz (f57 _ _ _ _ (by omega) fO2) (whole_fz (.inr ⟨rfl, rfl⟩)) ?_
                rw [whole_true tO]
                simp only [go_sem, xQ, ↓reduceIte, xA, xM, xL, xT, xE, xN, xP, xR, xS, N1, N2, N3, N4, N5, N6]
                refine callB_fz (f57 _ _ _ _ (by omega) fA2) (whole_fz (.inl rfl)) ?_
                rw [whole_true tA]
                simp only [go_sem, xQ, ↓reduceIte, xA, xM, xL, xT, xE, xN, xP, xR, xS, N1, N2, N3, N4, N5, N6]
                refine callB_use (f40 hG hG2 hG5) rfl ?_
                simp only [go_sem, xQ, ↓reduceIte, xA, xM, xL, xT, xE, xN, xP, xR, xS]
                exact retP_drop (by repeat (first | exact Drop.refl _ | assumption | refine Drop.upd ?_ (by assumption))) rfl
              · obtain ⟨rfl, rfl⟩ := pA hv
                have hv' : ¬ withinE op 0 8 = 0 := hv
                have hv3 : withinE op 0 8 = alwE op := rfl
                simp only [go_sem, xQ, ↓reduceIte, xA, xM, xL, xT, xE, xN, xP, xR, xS, N1, N2, N3, N4, N5, N6, hv', hv3, hv, eq_self_iff_true]
                refine callB_fz (f57 _ _ _ _ (by omega) fJ2) (whole_fz (.inl rfl)) ?_
                rw [whole_true tJ]
                simp only [go_sem, xQ, ↓reduceIte, xA, xM, xL, xT, xE, xN, xP, xR, xS, N1, N2, N3, N4, N5, N6]
                refine callB_fz (f57 _ _ _ _ (by omega) fO2) (whole_fz (.inr ⟨rfl, rfl⟩)) ?_
                rw [whole_true tO]
                simp only [go_sem, xQ, ↓reduceIte, xA, xM, xL, xT, xE, xN, xP, xR, xS, N1, N2, N3, N4, N5, N6]
                refine callB_fz (f57 _ _ _ _ (by omega) fA2) (whole_fz (.inr ⟨rfl, rfl⟩)) ?_
                rw [whole_true tA]
                simp only [go_sem, xQ, ↓reduceIte, xA, xM, xL, xT, xE, xN, xP, xR, xS, N1, N2, N3, N4, N5, N6]
                refine callB_use (f40 hG hG2 hG5) rfl ?_
                simp only [go_sem, xQ, ↓reduceIte, xA, xM, xL, xT, xE, xN, xP, xR, xS]
                exact retP_drop (by repeat (first | exact Drop.refl _ | assumption | refine Drop.upd ?_ (by assumption))) rfl
          · obtain ⟨rfl, rfl⟩ := pJ hj
            simp only [go_sem, xQ, ↓reduceIte, xA, xM, xL, xT, xE, xN, xP, xR, xS, N1, N2, N3, N4, N5, N6, hJe, hj, h3, h4]
            by_cases ho : checkE f = 0
            · obtain ⟨rfl, rfl⟩ := qO ho
              simp only [go_sem, xQ, ↓reduceIte, xA, xM, xL, xT, xE, xN, xP, xR, xS, N1, N2, N3, N4, N5, N6, ho, hj]
              refine callB_use (f70 f (by omega) fF2) rfl ?_
              simp only [go_sem, xQ, ↓reduceIte, xA, xM, xL, xT, xE, xN, xP, xR, xS, N1, N2, N3, N4, N5, N6, hj]
              by_cases hv : alwE op = 0
              · obtain ⟨rfl, rfl⟩ := qA hv
                have hv' : withinE op 0 8 = 0 := hv
                simp only [go_sem, xQ, ↓reduceIte, xA, xM, xL, xT, xE, xN, xP, xR, xS, N1, N2, N3, N4, N5, N6, hv', hv, hj]
                refine callB_use (f71 op) rfl ?_
                simp only [go_sem, xQ, ↓reduceIte, xA, xM, xL, xT, xE, xN, xP, xR, xS, N1, N2, N3, N4, N5, N6]
                refine callB_fz (f57 _ _ _ _ (by omega) fJ2) (whole_fz (.inr ⟨rfl, rfl⟩)) ?_
                rw [whole_true tJ]
                simp only [go_sem, xQ, ↓reduceIte, xA, xM, xL, xT, xE, xN, xP, xR, xS, N1, N2, N3, N4, N5, N6]
                refine callB_fz (f57 _ _ _ _ (by omega) fO2) (whole_fz (.inl rfl)) ?_
                rw [whole_true tO]
                simp only [go_sem, xQ, ↓reduceIte, xA, xM, xL, xT, xE, xN, xP, xR, xS, N1, N2, N3, N4, N5, N6]
                refine callB_fz (f57 _ _ _ _ (by omega) fA2) (whole_fz (.inl rfl)) ?_
                rw [whole_true tA]
                simp only [go_sem, xQ, ↓reduceIte, xA, xM, xL, xT, xE, xN, xP, xR, xS, N1, N2, N3, N4, N5, N6]
                refine callB_use (f40 hG hG2 hG5) rfl ?_
                simp only [go_sem, xQ, ↓reduceIte, xA, xM, xL, xT, xE, xN, xP, xR, xS]
                exact retP_drop (by repeat (first | exact Drop.refl _ | assumption | refine Drop.upd ?_ (by assumption))) rfl
              · obtain ⟨rfl, rfl⟩ := pA hv
                have hv' : ¬ withinE op 0 8 = 0 := hv
                have hv3 : withinE op 0 8 = alwE op := rfl
                simp only [go_sem, xQ, ↓reduceIte, xA, xM, xL, xT, xE, xN, xP, xR, xS, N1, N2, N3, N4, N5, N6, hv', hv3, hv, hj]
                refine callB_fz (f57 _ _ _ _ (by omega) fJ2) (whole_fz (.inr ⟨rfl, rfl⟩)) ?_
                rw [whole_true tJ]
                simp only [go_sem, xQ, ↓reduceIte, xA, xM, xL, xT, xE, xN, xP, xR, xS, N1, N2, N3, N4, N5, N6]
                refine callB_fz (f57 _ _ _ _ (by omega) fO2) (whole_fz (.inl rfl)) ?_
                rw [whole_true tO]
                simp only [go_sem, xQ, ↓reduceIte, xA, xM, xL, xT, xE, xN, xP, xR, xS, N1, N2, N3, N4, N5, N6]
                refine callB_fz (f57 _ _ _ _ (by omega) fA2) (whole_fz (.inr ⟨rfl, rfl⟩)) ?_
                rw [whole_true tA]
                simp only [go_sem, xQ, ↓reduceIte, xA, xM, xL, xT, xE, xN, xP, xR, xS, N1, N2, N3, N4, N5, N6]
                refine callB_use (f40 hG hG2 hG5) rfl ?_
                simp only [go_sem, xQ, ↓reduceIte, xA, xM, xL, xT, xE, xN, xP, xR, xS]
                exact retP_drop (by repeat (first | exact Drop.refl _ | assumption | refine Drop.upd ?_ (by assumption))) rfl
            · obtain ⟨rfl, rfl⟩ := pO ho
              simp only [go_sem, xQ, ↓reduceIte, xA, xM, xL, xT, xE, xN, xP, xR, xS, N1, N2, N3, N4, N5, N6, ho, hj]
              by_cases hv : alwE op = 0
              · obtain ⟨rfl, rfl⟩ := qA hv
                have hv' : withinE op 0 8 = 0 := hv
                simp only [go_sem, xQ, ↓reduceIte, xA, xM, xL, xT, xE, xN, xP, xR, xS, N1, N2, N3, N4, N5, N6, hv', hv, hj]
                refine callB_use (f71 op) rfl ?_
                simp only [go_sem, xQ, ↓reduceIte, xA, xM, xL, xT, xE, xN, xP, xR, xS, N1, N2, N3, N4, N5, N6]
                refine callB_fz (f57 _ _ _ _ (by omega) fJ2) (whole_fz (.inr ⟨rfl, rfl⟩)) ?_
                rw [whole_true tJ]
                simp only [go_sem, xQ, ↓reduceIte, xA, xM, xL, xT, xE, xN, xP, xR, xS, N1, N2, N3, N4, N5, N6]
                refine callB_fz (f57 _ _ _ _ (by omega) fO2) (whole_fz (.inr ⟨rfl, rfl⟩)) ?_
                rw [whole_true tO]
                simp only [go_sem, xQ, ↓reduceIte, xA, xM, xL, xT, xE, xN, xP, xR, xS, N1, N2, N3, N4, N5, N6]
                refine callB_fz (f57 _ _ _ _ (by omega) fA2) (whole_fz (.inl rfl)) ?_
                rw [whole_true tA]
                simp only [go_sem, xQ, ↓reduceIte, xA, xM, xL, xT, xE, xN, xP, xR, xS, N1, N2, N3, N4, N5, N6]
                refine callB_use (f40 hG hG2 hG5) rfl ?_
                simp only [go_sem, xQ, ↓reduceIte, xA, xM, xL, xT, xE, xN, xP, xR, xS]
                exact retP_drop (by repeat (first | exact Drop.refl _ | assumption | refine Drop.upd ?_ (by assumption))) rfl
              · obtain ⟨rfl, rfl⟩ := pA hv
                have hv' : ¬ withinE op 0 8 = 0 := hv
                have hv3 : withinE op 0 8 = alwE op := rfl
                simp only [go_sem, xQ, ↓reduceIte, xA, xM, xL, xT, xE, xN, xP, xR, xS, N1, N2, N3, N4, N5, N6, hv', hv3, hv, hj]
                refine callB_fz (f57 _ _ _ _ (by omega) fJ2) (whole_fz (.inr ⟨rfl, rfl⟩)) ?_
                rw [whole_true tJ]
                simp only [go_sem, xQ, ↓reduceIte, xA, xM, xL, xT, xE, xN, xP, xR, xS, N1, N2, N3, N4, N5, N6]
                refine callB_fz (f57 _ _ _ _ (by omega) fO2) (whole_fz (.inr ⟨rfl, rfl⟩)) ?_
                rw [whole_true tO]
                simp only [go_sem, xQ, ↓reduceIte, xA, xM, xL, xT, xE, xN, xP, xR, xS, N1, N2, N3, N4, N5, N6]
                refine callB_fz (f57 _ _ _ _ (by omega) fA2) (whole_fz (.inr ⟨rfl, rfl⟩)) ?_
                rw [whole_true tA]
                simp only [go_sem, xQ, ↓reduceIte, xA, xM, xL, xT, xE, xN, xP, xR, xS, N1, N2, N3, N4, N5, N6]
                refine callB_use (f40 hG hG2 hG5) rfl ?_
                simp only [go_sem, xQ, ↓reduceIte, xA, xM, xL, xT, xE, xN, xP, xR, xS]
                exact retP_drop (by repeat (first | exact Drop.refl _ | assumption | refine Drop.upd ?_ (by assumption))) rfl
    · rw [Bool.not_eq_true] at s2
      simp only [go_sem, xQ, ↓reduceIte, xA, xM, xL, xT, xE, xN, xP, xR, xS, Tryz.f9]
      refine callB_use (f39 f hl) rfl ?_
      simp only [go_sem, xQ, ↓reduceIte, xA, xM, xL, xT, xE, xN, xP, xR, xS, s1]
      refine callB_use (f39 g hl2) rfl ?_
      simp only [go_sem, xQ, ↓reduceIte, xA, xM, xL, xT, xE, xN, xP, xR, xS, s1, s2]
      refine callB_use (f40 hG hG2 hG5) rfl ?_
      simp only [go_sem, xQ, ↓reduceIte, xA, xM, xL, xT, xE, xN, xP, xR, xS]
  · rw [Bool.not_eq_true] at s1
    simp only [go_sem, xQ, ↓reduceIte, xA, xM, xL, xT, xE, xN, xP, xR, xS, Tryz.f9]
    refine callB_use (f39 f hl) rfl ?_
    simp only [go_sem, xQ, ↓reduceIte, xA, xM, xL, xT, xE, xN, xP, xR, xS, s1]
    refine callB_use (f40 hG hG2 hG5) rfl ?_
    simp only [go_sem, xQ, ↓reduceIte, xA, xM, xL, xT, xE, xN, xP, xR, xS]
end Go.AL
