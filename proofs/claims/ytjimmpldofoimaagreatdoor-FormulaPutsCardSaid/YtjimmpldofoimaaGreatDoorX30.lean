/- FormulaPuts: the law holds at every formula and all terms. -/
import Derived.Test.YtjimmpldofoimaaGreatDoorX28
open Nat renaming reduceEqDiff → xQ, reduceAdd → xA, reduceMul → xM, reduceLeDiff → xL
open Int renaming reduceLT → xT, reduceLE → xE, reduceToNat → xN
open Go.AL renaming retPost_one → xP, retPost_oneN → xR, ers_at' → xS
set_option linter.unusedVariables false
set_option linter.unusedSimpArgs false
namespace Go.AL
open Go.Proofs
@[reducible] noncomputable def p7 (Γ : Glob) : Par := par Γ [5, 8] [] []
theorem ok7 (Γ : Glob) : FnOk (p7 Γ) 7 50 (Tryz.f7.body.getD .skip) Tryz.f7.results.toList 2 := fnOk (par_mixed _ _ _ _) Tryz.func7 rfl rfl rfl (by kernel_rfl) (Nat.le_of_ble_eq_true rfl) (by kernel_rfl)
variable {Γ : Glob}
attribute [local irreducible] codeW opsW dopsW
theorem short_fits' {f : Fm} (h : shortFB f = true) : f.nodes.length ≤ 201 ∧ ∀ n ∈ f.nodes, NdFit n := by
  unfold shortFB at h
  rw [Bool.and_eq_true, Bool.or_eq_true, decide_eq_true_eq, decide_eq_true_eq, List.all_eq_true] at h
  refine ⟨by omega, fun n hn => ?_⟩
  have := h.1 n hn
  simp [shortNdB] at this
  exact ⟨by omega, by omega⟩
theorem shortTs_fits {l : List Tm} (h : shortTsB l = true) : l.length ≤ 10 ∧ ∀ t ∈ l, t.coeffs.length ≤ 10 := by
  unfold shortTsB at h
  rw [Bool.and_eq_true, decide_eq_true_eq, List.all_eq_true] at h
  exact ⟨by omega, fun t ht => by simpa using h.1 t ht⟩
theorem putNs_fit {terms : List Tm} {v : Nat} (hv : v ≤ 10) : ∀ (l acc r : List Nd), putNs terms v l acc = some r → (∀ n ∈ acc, NdFit n) → (∀ n ∈ l, NdFit n) → r.length = acc.length + l.length ∧ ∀ n ∈ r, NdFit n
  | [], acc, r, h, ha, _ => by cases h; exact ⟨rfl, ha⟩
  | n :: l, acc, r, h, ha, hl => by
    rw [putNs] at h
    split at h
    · cases h
    · rename_i x hx
      have hn := hl n (by simp)
      have hxf : NdFit x := by
        unfold putNd at hx
        split at hx
        · cases ht : putT terms n.term.coeffs 0 ⟨List.replicate v 0, n.term.const⟩ with
          | none => rw [ht] at hx; cases hx
          | some t =>
            rw [ht] at hx
            cases hx
            have := putT_len (m := v) _ _ _ _ (by simp) ht
            refine ⟨?_, ?_⟩
            · show Fits t.coeffs.length
              omega
            · show Fits (shiftN 0 n).kids.length
              rw [shiftN, List.length_map]; exact hn.2
        · cases hx
          exact ⟨hn.1, by show Fits (shiftN 0 n).kids.length; rw [shiftN, List.length_map]; exact hn.2⟩
      obtain ⟨a1, a2⟩ := putNs_fit hv l (acc ++ [x]) r h (fun y hy => by
        rcases List.mem_append.1 hy with hy | hy
        · exact ha y hy
        · rw [List.mem_singleton] at hy; subst hy; exact hxf) (fun y hy => hl y (List.mem_cons_of_mem _ hy))
      exact ⟨by rw [a1]; simp; omega, a2⟩
theorem put_fitN {f : Fm} {l : List Tm} (hf : f.nodes.length ≤ 201) (hc : ∀ n ∈ f.nodes, NdFit n) (hl : ∀ t ∈ l, t.coeffs.length ≤ 10) : (putR f l).1.nodes.length ≤ 201 ∧ ∀ n ∈ (putR f l).1.nodes, NdFit n := by
  have hv : varsT l ≤ 10 := by
    cases l with
    | nil => exact Nat.zero_le _
    | cons t l => exact hl t (by simp)
  have h0 : (fm0.nodes.length ≤ 201 ∧ ∀ n ∈ fm0.nodes, NdFit n) := ⟨Nat.zero_le _, fun n hn => by cases hn⟩
  unfold putR
  split
  · split
    · cases hp : putNs l (varsT l) f.nodes [] with
      | none => exact h0
      | some r =>
        obtain ⟨a1, a2⟩ := putNs_fit hv _ _ _ hp (fun n hn => by cases hn) hc
        exact ⟨by simp only; rw [a1]; simpa using hf, a2⟩
    · exact h0
  · exact h0
theorem put_bad {f : Fm} {l : List Tm} (h : ¬ checkE f = 0) : putR f l = (fm0, checkE f) := by
  have e : putE1 f l = checkE f := by rw [putE1, firstE_cons, if_neg h]
  rw [putR, if_neg (by rw [e]; exact h), e]
theorem put_one {f : Fm} {l : List Tm} (h : checkE f = 0) : putE1 f l = if (l.length : Int) = f.vars then 0 else 2 := by
  rw [putE1, firstE_cons, if_pos h, firstE_cons, firstE_nil, whenE]
  by_cases h2 : (l.length : Int) = f.vars <;> simp [h2]
theorem put_bad2 {f : Fm} {l : List Tm} (h : checkE f = 0) (h2 : ¬ checkTsE l f.vars = 0) : putR f l = (fm0, checkTsE l f.vars) := by
  have e := put_one (l := l) h
  unfold checkTsE at h2 ⊢
  by_cases h3 : (l.length : Int) = f.vars
  · rw [if_pos h3] at e h2 ⊢
    rw [putR, if_pos e, if_neg (show ¬ putE2 l = 0 from h2)]; rfl
  · rw [if_neg h3] at e ⊢
    rw [putR, e, if_neg (by decide)]
theorem put_good {f : Fm} {l : List Tm} (h : checkE f = 0) (h2 : checkTsE l f.vars = 0) : putR f l = put56 f l ∧ (l.length : Int) = f.vars ∧ varsT l ≤ 8 ∧ ∀ t ∈ l, t.coeffs.length = varsT l := by
  have e := put_one (l := l) h
  unfold checkTsE at h2
  by_cases h3 : (l.length : Int) = f.vars
  · rw [if_pos h3] at e h2
    refine ⟨?_, h3, vars_terms h2⟩
    rw [putR, if_pos e, if_pos (show putE2 l = 0 from h2)]; rfl
  · rw [if_neg h3] at h2
    cases h2
set_option maxHeartbeats 2000000 in
theorem f7 (hG : Γ 0 = some sortsT) (hG2 : Γ 2 = some [int 0, int 0]) (hG5 : Γ 5 = some powT) (f : Fm) (l : List Tm) (hl : f.nodes.length ≤ 9223372036854775807) (hl2 : l.length ≤ 9223372036854775807) : PCalls Tryz.prog Γ 7 [fmA f, slT l] (.v (.bool true)) := by
  refine pcalls (ok7 Γ) fun σ => ?_
  by_cases h1 : shortFB f = true
  · obtain ⟨hn, hc⟩ := short_fits' h1
    by_cases h2 : shortTsB l = true
    · obtain ⟨hln, hlc⟩ := shortTs_fits h2
      obtain ⟨hpn, hpc⟩ := put_fitN hn hc hlc
      simp only [go_sem, xQ, ↓reduceIte, xA, xM, xL, xT, xE, xN, xP, xR, xS, Tryz.f7]
      refine callB_use (f39 f hl) rfl ?_
      simp only [go_sem, xQ, ↓reduceIte, xA, xM, xL, xT, xE, xN, xP, xR, xS, h1]
      refine callB_use (f52 l hl2) rfl ?_
      simp only [go_sem, xQ, ↓reduceIte, xA, xM, xL, xT, xE, xN, xP, xR, xS, h1, h2]
      refine callB_use (f42 f (by omega) hc) rfl ?_
      simp only [go_sem, xQ, ↓reduceIte, xA, xM, xL, xT, xE, xN, xP, xR, xS, h1, h2]
      refine callB_use (f54 l (by omega) (fun t ht => by have := hlc t ht; omega)) rfl ?_
      simp only [go_sem, xQ, ↓reduceIte, xA, xM, xL, xT, xE, xN, xP, xR, xS, h1, h2]
      refine callB_use (f53 hG f l (by omega) hc (by omega) (fun t ht => by have := hlc t ht; omega)) rfl ?_
      simp only [go_sem, xQ, ↓reduceIte, xA, xM, xL, xT, xE, xN, xP, xR, xS, h1, h2]
      intro b5 hb5
      simp only [go_sem, xQ, ↓reduceIte, xA, xM, xL, xT, xE, xN, xP, xR, xS, h1, h2]
      refine callB_use (f44 f (by omega) hc) rfl ?_
      simp only [go_sem, xQ, ↓reduceIte, xA, xM, xL, xT, xE, xN, xP, xR, xS, h1, h2]
      intro b8 hb8
      obtain ⟨n85, hb8⟩ := un hb8
      have n85' : ¬ b5 = b8 := fun e => n85 e.symm
      by_cases h3 : checkE f = 0
      · obtain ⟨hne, hl200, hv0, hv8, hN⟩ := check_ok h3
        simp only [go_sem, xQ, ↓reduceIte, xA, xM, xL, xT, xE, xN, xP, xR, xS, h1, h2, h3, n85, n85']
        refine callB_use (f55 l f.vars (by omega) (fun t ht => by have := hlc t ht; omega)) rfl ?_
        simp only [go_sem, xQ, ↓reduceIte, xA, xM, xL, xT, xE, xN, xP, xR, xS, h1, h2, h3, n85, n85']
        by_cases h4 : checkTsE l f.vars = 0
        · obtain ⟨hP, q1, q2, q3⟩ := put_good h3 h4
          rw [hP] at hpn hpc ⊢
          simp only [go_sem, xQ, ↓reduceIte, xA, xM, xL, xT, xE, xN, xP, xR, xS, h1, h2, h3, h4, n85, n85']
          refine callB_use (f56 f l (by omega) hc hN q1 hv8 q3 q2) rfl ?_
          simp only [go_sem, xQ, ↓reduceIte, xA, xM, xL, xT, xE, xN, xP, xR, xS, h1, h2, h3, h4, n85, n85']
          refine callB_use (f57 (put56 f l).1 (put56 f l).1 (put56 f l).2 (put56 f l).2 (by omega) hpc) rfl ?_
          simp only [go_sem, xQ, ↓reduceIte, xA, xM, xL, xT, xE, xN, xP, xR, xS, h1, h2, h3, h4, n85, n85']
          have hz : (put56 f l).1 = if (put56 f l).2 = 0 then (put56 f l).1 else fm0 := by
            unfold put56
            split <;> rfl
          simp only [go_sem, xQ, ↓reduceIte, xA, xM, xL, xT, xE, xN, xP, xR, xS, n85, n85', ← hz, eq_self_iff_true, decide_true, Bool.and_self]
          refine callB_use (f40 hG hG2 hG5) rfl ?_
          simp only [go_sem, xQ, ↓reduceIte, xA, xM, xL, xT, xE, xN, xP, xR, xS]
          exact retP_drop (by repeat (first | exact Drop.refl _ | assumption | refine Drop.upd ?_ (by assumption))) rfl
        · rw [put_bad2 h3 h4]
          simp only [go_sem, xQ, ↓reduceIte, xA, xM, xL, xT, xE, xN, xP, xR, xS, h1, h2, h3, h4, n85, n85']
          refine callB_fz (f57 fm0 fm0 (checkTsE l f.vars) (checkTsE l f.vars) (by decide) (fun n hn => by cases hn)) (.cons (.refl _) (.cons (.refl _) (.cons (.refl _) (.cons (.agg (.cons (.refl _) (.cons .nil .nil))) .nil)))) ?_
          simp only [go_sem, xQ, ↓reduceIte, xA, xM, xL, xT, xE, xN, xP, xR, xS, h1, h2, h3, h4, n85, n85', eq_self_iff_true, decide_true, Bool.and_self]
          refine callB_use (f40 hG hG2 hG5) rfl ?_
          simp only [go_sem, xQ, ↓reduceIte, xA, xM, xL, xT, xE, xN, xP, xR, xS]
          exact retP_drop (by repeat (first | exact Drop.refl _ | assumption | refine Drop.upd ?_ (by assumption))) rfl
      · rw [put_bad h3]
        simp only [go_sem, xQ, ↓reduceIte, xA, xM, xL, xT, xE, xN, xP, xR, xS, h1, h2, h3, n85, n85']
        refine callB_fz (f57 fm0 fm0 (checkE f) (checkE f) (by decide) (fun n hn => by cases hn)) (.cons (.refl _) (.cons (.refl _) (.cons (.refl _) (.cons (.agg (.cons (.refl _) (.cons .nil .nil))) .nil)))) ?_
        simp only [go_sem, xQ, ↓reduceIte, xA, xM, xL, xT, xE, xN, xP, xR, xS, h1, h2, h3, n85, n85', eq_self_iff_true, decide_true, Bool.and_self]
        refine callB_use (f40 hG hG2 hG5) rfl ?_
        simp only [go_sem, xQ, ↓reduceIte, xA, xM, xL, xT, xE, xN, xP, xR, xS]
        exact retP_drop (by repeat (first | exact Drop.refl _ | assumption | refine Drop.upd ?_ (by assumption))) rfl
    · rw [Bool.not_eq_true] at h2
      simp only [go_sem, xQ, ↓reduceIte, xA, xM, xL, xT, xE, xN, xP, xR, xS, Tryz.f7]
      refine callB_use (f39 f hl) rfl ?_
      simp only [go_sem, xQ, ↓reduceIte, xA, xM, xL, xT, xE, xN, xP, xR, xS, h1]
      refine callB_use (f52 l hl2) rfl ?_
      simp only [go_sem, xQ, ↓reduceIte, xA, xM, xL, xT, xE, xN, xP, xR, xS, h1, h2]
      refine callB_use (f40 hG hG2 hG5) rfl ?_
      simp only [go_sem, xQ, ↓reduceIte, xA, xM, xL, xT, xE, xN, xP, xR, xS]
  · rw [Bool.not_eq_true] at h1
    simp only [go_sem, xQ, ↓reduceIte, xA, xM, xL, xT, xE, xN, xP, xR, xS, Tryz.f7]
    refine callB_use (f39 f hl) rfl ?_
    simp only [go_sem, xQ, ↓reduceIte, xA, xM, xL, xT, xE, xN, xP, xR, xS, h1]
    refine callB_use (f40 hG hG2 hG5) rfl ?_
    simp only [go_sem, xQ, ↓reduceIte, xA, xM, xL, xT, xE, xN, xP, xR, xS]
end Go.AL
