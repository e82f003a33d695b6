/- ProveModels. -/
import Derived.Test.YtjimmpldofoimaaGreatDoorWl
set_option linter.unusedVariables false
set_option linter.unusedSimpArgs false
namespace Go.AL
open Go.Proofs
variable {Γ : Glob}
attribute [local irreducible] codeW opsW dopsW
set_option maxHeartbeats 2000000 in
theorem f11 (hG1 : Γ 1 = some [int 0, int 0]) (hG3 : Γ 3 = some kindsT) (l : List Tm) (sp : List Rg) (vs : List Int) (hl : l.length ≤ 9223372036854775807) (hp : sp.length ≤ 9223372036854775807) (hv : vs.length ≤ 9223372036854775807) : PCalls Tryz.prog Γ 11 [slT l, slR sp, slI vs] (.v (.bool true)) := by
  have w1 : whenE true 28 = 28 := rfl
  have w2 : whenE false 28 = 0 := rfl
  refine pcalls (ok11 Γ) fun σ => ?_
  simp only [go_sem, Nat.reduceEqDiff, ↓reduceIte, Nat.reduceAdd, Nat.reduceMul, Nat.reduceLeDiff, Int.reduceLT, Int.reduceLE, Int.reduceToNat, Tryz.f11]
  refine callB_use (f20 l hl) rfl ?_
  cases h1 : shortTermsB l with
  | false =>
    simp only [go_sem, Nat.reduceEqDiff, ↓reduceIte, Nat.reduceAdd, Nat.reduceMul, Nat.reduceLeDiff, Int.reduceLT, Int.reduceLE, Int.reduceToNat]
    refine callB_use (f22 hG1 hG3) rfl ?_
    simp only [go_sem, Nat.reduceEqDiff, ↓reduceIte, Nat.reduceAdd, Nat.reduceMul, Nat.reduceLeDiff, Int.reduceLT, Int.reduceLE, Int.reduceToNat]
  | true =>
    obtain ⟨a1, a2⟩ := shortTerms_ok h1
    have hc : ∀ t ∈ l, Fits t.coeffs.length := fun t ht => by have := a2 t ht; omega
    by_cases h2 : (10 : Int) < sp.length
    · simp only [go_sem, Nat.reduceEqDiff, ↓reduceIte, Nat.reduceAdd, Nat.reduceMul, Nat.reduceLeDiff, Int.reduceLT, Int.reduceLE, Int.reduceToNat, h2]
      refine callB_use (f22 hG1 hG3) rfl ?_
      simp only [go_sem, Nat.reduceEqDiff, ↓reduceIte, Nat.reduceAdd, Nat.reduceMul, Nat.reduceLeDiff, Int.reduceLT, Int.reduceLE, Int.reduceToNat]
    · have hsF : Fits sp.length := by omega
      by_cases h3 : (10 : Int) < vs.length
      · simp only [go_sem, Nat.reduceEqDiff, ↓reduceIte, Nat.reduceAdd, Nat.reduceMul, Nat.reduceLeDiff, Int.reduceLT, Int.reduceLE, Int.reduceToNat, h2, h3]
        refine callB_use (f22 hG1 hG3) rfl ?_
        simp only [go_sem, Nat.reduceEqDiff, ↓reduceIte, Nat.reduceAdd, Nat.reduceMul, Nat.reduceLeDiff, Int.reduceLT, Int.reduceLE, Int.reduceToNat]
      · have hvF : Fits vs.length := by omega
        have c28 := f28 (Γ := Γ) l (by omega) hc
        rw [← checkTerms_eq] at c28
        simp only [go_sem, Nat.reduceEqDiff, ↓reduceIte, Nat.reduceAdd, Nat.reduceMul, Nat.reduceLeDiff, Int.reduceLT, Int.reduceLE, Int.reduceToNat, h2, h3]
        refine callB_use (f24 l (by omega) hc) rfl ?_
        simp only [go_sem, Nat.reduceEqDiff, ↓reduceIte, Nat.reduceAdd, Nat.reduceMul, Nat.reduceLeDiff, Int.reduceLT, Int.reduceLE, Int.reduceToNat]
        refine callB_use (f84 vs hvF) rfl ?_
        simp only [go_sem, Nat.reduceEqDiff, ↓reduceIte, Nat.reduceAdd, Nat.reduceMul, Nat.reduceLeDiff, Int.reduceLT, Int.reduceLE, Int.reduceToNat]
        refine callB_use (f83 l vs (by omega) hc hvF) rfl ?_
        simp only [go_sem, Nat.reduceEqDiff, ↓reduceIte, Nat.reduceAdd, Nat.reduceMul, Nat.reduceLeDiff, Int.reduceLT, Int.reduceLE, Int.reduceToNat]
        refine callB_use (f24 l (by omega) hc) rfl ?_
        simp only [go_sem, Nat.reduceEqDiff, ↓reduceIte, Nat.reduceAdd, Nat.reduceMul, Nat.reduceLeDiff, Int.reduceLT, Int.reduceLE, Int.reduceToNat]
        refine callB_use (f32 sp hsF) rfl ?_
        simp only [go_sem, Nat.reduceEqDiff, ↓reduceIte, Nat.reduceAdd, Nat.reduceMul, Nat.reduceLeDiff, Int.reduceLT, Int.reduceLE, Int.reduceToNat]
        refine callB_use (f85 l sp (by omega) hc hsF) rfl ?_
        simp only [go_sem, Nat.reduceEqDiff, ↓reduceIte, Nat.reduceAdd, Nat.reduceMul, Nat.reduceLeDiff, Int.reduceLT, Int.reduceLE, Int.reduceToNat]
        refine callB_use (f24 l (by omega) hc) rfl ?_
        simp only [go_sem, Nat.reduceEqDiff, ↓reduceIte, Nat.reduceAdd, Nat.reduceMul, Nat.reduceLeDiff, Int.reduceLT, Int.reduceLE, Int.reduceToNat]
        refine callB_use (f86 l (by omega) hc) rfl ?_
        simp only [go_sem, Nat.reduceEqDiff, ↓reduceIte, Nat.reduceAdd, Nat.reduceMul, Nat.reduceLeDiff, Int.reduceLT, Int.reduceLE, Int.reduceToNat]
        intro b11 hb11
        simp only [go_sem, Nat.reduceEqDiff, ↓reduceIte, Nat.reduceAdd, Nat.reduceMul, Nat.reduceLeDiff, Int.reduceLT, Int.reduceLE, Int.reduceToNat]
        refine callB_use (c28) rfl ?_
        simp only [go_sem, Nat.reduceEqDiff, ↓reduceIte, Nat.reduceAdd, Nat.reduceMul, Nat.reduceLeDiff, Int.reduceLT, Int.reduceLE, Int.reduceToNat]
        intro b18 hb18
        obtain ⟨n18, hb18⟩ := upd_none hb18
        have n18' : ¬ b11 = b18 := fun e => n18 e.symm
        by_cases h4 : checkTermsE l = 0
        · obtain ⟨hne, _, hts⟩ := terms_ok h4
          have hm8 : varsOf l ≤ 8 := by
            cases l with
            | nil => exact absurd rfl hne
            | cons t l => exact (hts t List.mem_cons_self).2.2
          have hT : ∀ t ∈ l, TmOk t (varsOf l) := fun t ht => tmOk_of (hts t ht).1 (hts t ht).2.1 (hts t ht).2.2
          have e1 : IsModelP l vs = (decide (valuesE vs (varsOf l) = 0) && modelB l vs, valuesE vs (varsOf l)) := by
            rw [isModel_eq vs h4]
            by_cases h : valuesE vs (varsOf l) = 0
            · simp [h]
            · simp [h]
          have hpf := pairP_fits l (by omega)
          have c87 := f87 (Γ := Γ) l (varsOf l) (by omega) (fun t ht => (hT t ht).len) (by omega)
          rw [← pair_eq hT] at c87
          rw [e1]
          simp only [go_sem, Nat.reduceEqDiff, ↓reduceIte, Nat.reduceAdd, Nat.reduceMul, Nat.reduceLeDiff, Int.reduceLT, Int.reduceLE, Int.reduceToNat, h4, n18, n18']
          refine callB_use (f35 l) rfl ?_
          simp only [go_sem, Nat.reduceEqDiff, ↓reduceIte, Nat.reduceAdd, Nat.reduceMul, Nat.reduceLeDiff, Int.reduceLT, Int.reduceLE, Int.reduceToNat]
          refine callB_use (f45 vs _ (fun _ => hvF)) rfl ?_
          simp only [go_sem, Nat.reduceEqDiff, ↓reduceIte, Nat.reduceAdd, Nat.reduceMul, Nat.reduceLeDiff, Int.reduceLT, Int.reduceLE, Int.reduceToNat]
          refine callB_use (f35 l) rfl ?_
          simp only [go_sem, Nat.reduceEqDiff, ↓reduceIte, Nat.reduceAdd, Nat.reduceMul, Nat.reduceLeDiff, Int.reduceLT, Int.reduceLE, Int.reduceToNat]
          refine callB_use (f34 sp _ hsF) rfl ?_
          simp only [go_sem, Nat.reduceEqDiff, ↓reduceIte, Nat.reduceAdd, Nat.reduceMul, Nat.reduceLeDiff, Int.reduceLT, Int.reduceLE, Int.reduceToNat]
          refine callB_use (c87) rfl ?_
          simp only [go_sem, Nat.reduceEqDiff, ↓reduceIte, Nat.reduceAdd, Nat.reduceMul, Nat.reduceLeDiff, Int.reduceLT, Int.reduceLE, Int.reduceToNat, n18, n18']
          by_cases h5 : spansE sp (varsOf l) = 0
          · have h6 := vs_of h5
            have c88 : PCalls Tryz.prog Γ 88 [slT l, slR sp] (narrowA (narrowedP l sp)) := by
              by_cases hm0 : varsOf l = 0
              · have hs0 := (spans_ok h5).1
                rw [hm0] at hs0
                obtain rfl : sp = [] := List.eq_nil_of_length_eq_zero hs0
                exact f88z l (by omega) (fun t ht => by rw [← hm0]; exact hT t ht)
              · exact f88 (varsOf l) l (by omega) hT sp (spans_ok h5).1 h6 hm8 hm0
            cases hn : narrowedP l sp with
            | none =>
              rw [hn] at c88
              have hN : NarrowedP l sp = ([], 28) := by rw [NarrowedP, if_pos h4, if_pos h5, hn]
              simp only [go_sem, Nat.reduceEqDiff, ↓reduceIte, Nat.reduceAdd, Nat.reduceMul, Nat.reduceLeDiff, Int.reduceLT, Int.reduceLE, Int.reduceToNat, h5, n18, n18', hN]
              refine callB_use (c88) rfl ?_
              simp only [go_sem, Nat.reduceEqDiff, ↓reduceIte, Nat.reduceAdd, Nat.reduceMul, Nat.reduceLeDiff, Int.reduceLT, Int.reduceLE, Int.reduceToNat, narrowA, Option.isSome_none, Option.getD_none]
              refine callB_use (f67 _ _) rfl ?_
              simp only [go_sem, Nat.reduceEqDiff, ↓reduceIte, Nat.reduceAdd, Nat.reduceMul, Nat.reduceLeDiff, Int.reduceLT, Int.reduceLE, Int.reduceToNat]
              refine SemC.loopK mixed (([] : List Rg)).length (fun k ρ σ' ds => (ds = [] ∧ ρ 0 = slT l ∧ ρ 2 = slI vs ∧ ρ 7 = .v (.bool (decide (valuesE vs (varsOf l) = 0) && modelB l vs)) ∧ ρ 8 = int (valuesE vs (varsOf l)) ∧ ρ 9 = slR (([] : List Rg)) ∧ ρ 10 = int ((28 : Int)) ∧ ρ 11 = .v (.pointer (some ⟨b11, 0, none⟩)) ∧ ρ 12 = .v (.bool (pairP l).2) ∧ ρ 13 = int ((0 : Int)) ∧ ρ 14 = int ((0 : Int)) ∧ ρ 15 = int (valuesE vs (varsOf l)) ∧ ρ 16 = int ((28 : Int)) ∧ ρ 17 = slR [] ∧ ρ 18 = .v (.pointer (some ⟨b18, 0, none⟩)) ∧ ρ 19 = .v (.bool (pairP l).2) ∧ ρ 99 = int (([] : List Rg)).length ∧ ρ 100 = int k) ∧ Drop σ' σ ∧ σ' b11 = some (.row [slS ((pairP l).1)] 1 1) ∧ σ' b18 = some (.row [slS (pairP l).1] 1 1)) (by kernel_rfl)
                ⟨by simp only [go_sem, Nat.reduceEqDiff, ↓reduceIte, Nat.reduceAdd, Nat.reduceMul, Nat.reduceLeDiff, Int.reduceLT, Int.reduceLE, Int.reduceToNat, h4, h5, w1, w2, n18, n18', narrowA, Option.getD_none, Option.getD_some, List.length_nil], by repeat (first | exact Drop.refl _ | assumption | refine Drop.upd ?_ (by assumption)), by simp only [go_sem, Nat.reduceEqDiff, ↓reduceIte, Nat.reduceAdd, Nat.reduceMul, Nat.reduceLeDiff, Int.reduceLT, Int.reduceLE, Int.reduceToNat, n18, n18']; try rfl, by simp only [go_sem, Nat.reduceEqDiff, ↓reduceIte, Nat.reduceAdd, Nat.reduceMul, Nat.reduceLeDiff, Int.reduceLT, Int.reduceLE, Int.reduceToNat, n18, n18']; try rfl⟩ ?_
              rintro k ρ σ' ds hk ⟨⟨rfl, h0, h2, h7, h8, h9, h10, h11, h12, h13, h14, h15, h16, h17, h18, h19, h99, h100⟩, hD, hs11, hs18⟩
              rcases get_or_end (([] : List Rg)) k hk with ⟨x, hx, hlt, hd⟩ | hk
              · exact absurd hlt (Nat.not_lt_zero _)
              · simp only [go_sem, Nat.reduceEqDiff, ↓reduceIte, Nat.reduceAdd, Nat.reduceMul, Nat.reduceLeDiff, Int.reduceLT, Int.reduceLE, Int.reduceToNat, h0, h2, h7, h8, h9, h10, h11, h12, h13, h14, h15, h16, h17, h18, h19, h99, h100, hk, Nat.lt_irrefl, beq_self_eq_true, eq_self_iff_true, decide_true, hs11, hs18, true_and]
                by_cases hv0 : valuesE vs (varsOf l) = 0
                · have hm : ∀ t ∈ l, vs.length = t.coeffs.length := fun t ht => by
                    have h7 := (whenE_zero (by decide)).1 ((firstE_zero _).1 hv0 (whenE (!decide ((vs.length : Int) = varsOf l)) 2) (by simp))
                    simp at h7
                    have := (hT t ht).len
                    omega
                  simp only [go_sem, Nat.reduceEqDiff, ↓reduceIte, Nat.reduceAdd, Nat.reduceMul, Nat.reduceLeDiff, Int.reduceLT, Int.reduceLE, Int.reduceToNat, h0, h2, h7, h8, h9, h10, h11, h12, h13, h14, h15, h16, h17, h18, h19, hs11, hs18, hv0, Bool.true_and]
                  refine callB_use (f89 l vs (by omega) hvF hm) rfl ?_
                  simp only [go_sem, Nat.reduceEqDiff, ↓reduceIte, Nat.reduceAdd, Nat.reduceMul, Nat.reduceLeDiff, Int.reduceLT, Int.reduceLE, Int.reduceToNat, h0, h2, h7, h8, h9, h10, h11, h12, h13, h14, h15, h16, h17, h18, h19, hs11, hs18, hv0, Bool.true_and, beq_self_eq_true, eq_self_iff_true, decide_true]
                  refine dcallB_use (f91 ((pairP l).1) (by exact hpf.1)) rfl ?_
                  simp only [go_sem, Nat.reduceEqDiff, ↓reduceIte, Nat.reduceAdd, Nat.reduceMul, Nat.reduceLeDiff, Int.reduceLT, Int.reduceLE, Int.reduceToNat, h0, h2, h7, h8, h9, h10, h11, h12, h13, h14, h15, h16, h17, h18, h19, hs11, hs18]
                  refine callB_fz (f90 ((pairP l).1) ((pairP l).1) hpf.1 hpf.2) (.cons (.refl _) (.cons (.agg (.cons (.refl _) .nil)) .nil)) ?_
                  simp only [go_sem, Nat.reduceEqDiff, ↓reduceIte, Nat.reduceAdd, Nat.reduceMul, Nat.reduceLeDiff, Int.reduceLT, Int.reduceLE, Int.reduceToNat, h12, h13, h14, h19, eq_self_iff_true, decide_true, beq_self_eq_true]
                  refine callB_use (f22 hG1 hG3) rfl ?_
                  simp only [go_sem, Nat.reduceEqDiff, ↓reduceIte, Nat.reduceAdd, Nat.reduceMul, Nat.reduceLeDiff, Int.reduceLT, Int.reduceLE, Int.reduceToNat]
                  exact retP_drop hD rfl
                · simp only [go_sem, Nat.reduceEqDiff, ↓reduceIte, Nat.reduceAdd, Nat.reduceMul, Nat.reduceLeDiff, Int.reduceLT, Int.reduceLE, Int.reduceToNat, h0, h2, h7, h8, h9, h10, h11, h12, h13, h14, h15, h16, h17, h18, h19, hs11, hs18, hv0, Bool.false_and, beq_self_eq_true, eq_self_iff_true, decide_true]
                  refine dcallB_use (f91 ((pairP l).1) (by exact hpf.1)) rfl ?_
                  simp only [go_sem, Nat.reduceEqDiff, ↓reduceIte, Nat.reduceAdd, Nat.reduceMul, Nat.reduceLeDiff, Int.reduceLT, Int.reduceLE, Int.reduceToNat, h0, h2, h7, h8, h9, h10, h11, h12, h13, h14, h15, h16, h17, h18, h19, hs11, hs18]
                  refine callB_fz (f90 ((pairP l).1) ((pairP l).1) hpf.1 hpf.2) (.cons (.refl _) (.cons (.agg (.cons (.refl _) .nil)) .nil)) ?_
                  simp only [go_sem, Nat.reduceEqDiff, ↓reduceIte, Nat.reduceAdd, Nat.reduceMul, Nat.reduceLeDiff, Int.reduceLT, Int.reduceLE, Int.reduceToNat, h12, h13, h14, h19, eq_self_iff_true, decide_true, beq_self_eq_true]
                  refine callB_use (f22 hG1 hG3) rfl ?_
                  simp only [go_sem, Nat.reduceEqDiff, ↓reduceIte, Nat.reduceAdd, Nat.reduceMul, Nat.reduceLeDiff, Int.reduceLT, Int.reduceLE, Int.reduceToNat]
                  exact retP_drop hD rfl
            | some s =>
              rw [hn] at c88
              have hsl := narrowedP_len hn
              have hN : NarrowedP l sp = (s, 0) := by rw [NarrowedP, if_pos h4, if_pos h5, hn]
              simp only [go_sem, Nat.reduceEqDiff, ↓reduceIte, Nat.reduceAdd, Nat.reduceMul, Nat.reduceLeDiff, Int.reduceLT, Int.reduceLE, Int.reduceToNat, h5, n18, n18', hN]
              refine callB_use (c88) rfl ?_
              simp only [go_sem, Nat.reduceEqDiff, ↓reduceIte, Nat.reduceAdd, Nat.reduceMul, Nat.reduceLeDiff, Int.reduceLT, Int.reduceLE, Int.reduceToNat, narrowA, Option.isSome_some, Option.getD_some]
              refine callB_use (f67 _ _) rfl ?_
              simp only [go_sem, Nat.reduceEqDiff, ↓reduceIte, Nat.reduceAdd, Nat.reduceMul, Nat.reduceLeDiff, Int.reduceLT, Int.reduceLE, Int.reduceToNat]
              refine SemC.loopK mixed (s).length (fun k ρ σ' ds => (ds = [] ∧ ρ 0 = slT l ∧ ρ 2 = slI vs ∧ ρ 7 = .v (.bool (decide (valuesE vs (varsOf l) = 0) && modelB l vs)) ∧ ρ 8 = int (valuesE vs (varsOf l)) ∧ ρ 9 = slR (s) ∧ ρ 10 = int ((0 : Int)) ∧ ρ 11 = .v (.pointer (some ⟨b11, 0, none⟩)) ∧ ρ 12 = .v (.bool (pairP l).2) ∧ ρ 13 = int ((0 : Int)) ∧ ρ 14 = int ((0 : Int)) ∧ ρ 15 = int (valuesE vs (varsOf l)) ∧ ρ 16 = int ((0 : Int)) ∧ ρ 17 = slR s ∧ ρ 18 = .v (.pointer (some ⟨b18, 0, none⟩)) ∧ ρ 19 = .v (.bool (pairP l).2) ∧ ρ 99 = int (s).length ∧ ρ 100 = int k) ∧ Drop σ' σ ∧ σ' b11 = some (.row [slS ((pairP l).1)] 1 1) ∧ σ' b18 = some (.row [slS (pairP l).1] 1 1)) (by kernel_rfl)
                ⟨by simp only [go_sem, Nat.reduceEqDiff, ↓reduceIte, Nat.reduceAdd, Nat.reduceMul, Nat.reduceLeDiff, Int.reduceLT, Int.reduceLE, Int.reduceToNat, h4, h5, w1, w2, n18, n18', narrowA, Option.getD_none, Option.getD_some, List.length_nil], by repeat (first | exact Drop.refl _ | assumption | refine Drop.upd ?_ (by assumption)), by simp only [go_sem, Nat.reduceEqDiff, ↓reduceIte, Nat.reduceAdd, Nat.reduceMul, Nat.reduceLeDiff, Int.reduceLT, Int.reduceLE, Int.reduceToNat, n18, n18']; try rfl, by simp only [go_sem, Nat.reduceEqDiff, ↓reduceIte, Nat.reduceAdd, Nat.reduceMul, Nat.reduceLeDiff, Int.reduceLT, Int.reduceLE, Int.reduceToNat, n18, n18']; try rfl⟩ ?_
              rintro k ρ σ' ds hk ⟨⟨rfl, h0, h2, h7, h8, h9, h10, h11, h12, h13, h14, h15, h16, h17, h18, h19, h99, h100⟩, hD, hs11, hs18⟩
              rcases get_or_end (s) k hk with ⟨x, hx, hlt, hd⟩ | hk
              · simp only [go_sem, Nat.reduceEqDiff, ↓reduceIte, Nat.reduceAdd, Nat.reduceMul, Nat.reduceLeDiff, Int.reduceLT, Int.reduceLE, Int.reduceToNat, h0, h2, h7, h8, h9, h10, h11, h12, h13, h14, h15, h16, h17, h18, h19, h99, h100, hlt, ↓rg_part hx, eq_self_iff_true, decide_true, Bool.and_self]
                exact ⟨by rw [wrap_succ _ (by omega)], hD, hs11, hs18⟩
              · simp only [go_sem, Nat.reduceEqDiff, ↓reduceIte, Nat.reduceAdd, Nat.reduceMul, Nat.reduceLeDiff, Int.reduceLT, Int.reduceLE, Int.reduceToNat, h0, h2, h7, h8, h9, h10, h11, h12, h13, h14, h15, h16, h17, h18, h19, h99, h100, hk, Nat.lt_irrefl, beq_self_eq_true, eq_self_iff_true, decide_true, hs11, hs18, true_and]
                by_cases hv0 : valuesE vs (varsOf l) = 0
                · have hm : ∀ t ∈ l, vs.length = t.coeffs.length := fun t ht => by
                    have h7 := (whenE_zero (by decide)).1 ((firstE_zero _).1 hv0 (whenE (!decide ((vs.length : Int) = varsOf l)) 2) (by simp))
                    simp at h7
                    have := (hT t ht).len
                    omega
                  simp only [go_sem, Nat.reduceEqDiff, ↓reduceIte, Nat.reduceAdd, Nat.reduceMul, Nat.reduceLeDiff, Int.reduceLT, Int.reduceLE, Int.reduceToNat, h0, h2, h7, h8, h9, h10, h11, h12, h13, h14, h15, h16, h17, h18, h19, hs11, hs18, hv0, Bool.true_and]
                  refine callB_use (f89 l vs (by omega) hvF hm) rfl ?_
                  simp only [go_sem, Nat.reduceEqDiff, ↓reduceIte, Nat.reduceAdd, Nat.reduceMul, Nat.reduceLeDiff, Int.reduceLT, Int.reduceLE, Int.reduceToNat, h0, h2, h7, h8, h9, h10, h11, h12, h13, h14, h15, h16, h17, h18, h19, hs11, hs18, hv0, Bool.true_and, beq_self_eq_true, eq_self_iff_true, decide_true]
                  refine dcallB_use (f91 ((pairP l).1) (by exact hpf.1)) rfl ?_
                  simp only [go_sem, Nat.reduceEqDiff, ↓reduceIte, Nat.reduceAdd, Nat.reduceMul, Nat.reduceLeDiff, Int.reduceLT, Int.reduceLE, Int.reduceToNat, h0, h2, h7, h8, h9, h10, h11, h12, h13, h14, h15, h16, h17, h18, h19, hs11, hs18]
                  refine callB_fz (f90 ((pairP l).1) ((pairP l).1) hpf.1 hpf.2) (.cons (.refl _) (.cons (.agg (.cons (.refl _) .nil)) .nil)) ?_
                  simp only [go_sem, Nat.reduceEqDiff, ↓reduceIte, Nat.reduceAdd, Nat.reduceMul, Nat.reduceLeDiff, Int.reduceLT, Int.reduceLE, Int.reduceToNat, h12, h13, h14, h19, eq_self_iff_true, decide_true, beq_self_eq_true]
                  refine callB_use (f22 hG1 hG3) rfl ?_
                  simp only [go_sem, Nat.reduceEqDiff, ↓reduceIte, Nat.reduceAdd, Nat.reduceMul, Nat.reduceLeDiff, Int.reduceLT, Int.reduceLE, Int.reduceToNat]
                  exact retP_drop hD rfl
                · simp only [go_sem, Nat.reduceEqDiff, ↓reduceIte, Nat.reduceAdd, Nat.reduceMul, Nat.reduceLeDiff, Int.reduceLT, Int.reduceLE, Int.reduceToNat, h0, h2, h7, h8, h9, h10, h11, h12, h13, h14, h15, h16, h17, h18, h19, hs11, hs18, hv0, Bool.false_and, beq_self_eq_true, eq_self_iff_true, decide_true]
                  refine dcallB_use (f91 ((pairP l).1) (by exact hpf.1)) rfl ?_
                  simp only [go_sem, Nat.reduceEqDiff, ↓reduceIte, Nat.reduceAdd, Nat.reduceMul, Nat.reduceLeDiff, Int.reduceLT, Int.reduceLE, Int.reduceToNat, h0, h2, h7, h8, h9, h10, h11, h12, h13, h14, h15, h16, h17, h18, h19, hs11, hs18]
                  refine callB_fz (f90 ((pairP l).1) ((pairP l).1) hpf.1 hpf.2) (.cons (.refl _) (.cons (.agg (.cons (.refl _) .nil)) .nil)) ?_
                  simp only [go_sem, Nat.reduceEqDiff, ↓reduceIte, Nat.reduceAdd, Nat.reduceMul, Nat.reduceLeDiff, Int.reduceLT, Int.reduceLE, Int.reduceToNat, h12, h13, h14, h19, eq_self_iff_true, decide_true, beq_self_eq_true]
                  refine callB_use (f22 hG1 hG3) rfl ?_
                  simp only [go_sem, Nat.reduceEqDiff, ↓reduceIte, Nat.reduceAdd, Nat.reduceMul, Nat.reduceLeDiff, Int.reduceLT, Int.reduceLE, Int.reduceToNat]
                  exact retP_drop hD rfl
          · have hN : NarrowedP l sp = ([], spansE sp (varsOf l)) := by rw [NarrowedP, if_pos h4, if_neg h5]
            simp only [go_sem, Nat.reduceEqDiff, ↓reduceIte, Nat.reduceAdd, Nat.reduceMul, Nat.reduceLeDiff, Int.reduceLT, Int.reduceLE, Int.reduceToNat, h5, n18, n18', hN]
            refine SemC.loopK mixed (([] : List Rg)).length (fun k ρ σ' ds => (ds = [] ∧ ρ 0 = slT l ∧ ρ 2 = slI vs ∧ ρ 7 = .v (.bool (decide (valuesE vs (varsOf l) = 0) && modelB l vs)) ∧ ρ 8 = int (valuesE vs (varsOf l)) ∧ ρ 9 = slR (([] : List Rg)) ∧ ρ 10 = int (spansE sp (varsOf l)) ∧ ρ 11 = .v (.pointer (some ⟨b11, 0, none⟩)) ∧ ρ 12 = .v (.bool (pairP l).2) ∧ ρ 13 = int ((0 : Int)) ∧ ρ 14 = int ((0 : Int)) ∧ ρ 15 = int (valuesE vs (varsOf l)) ∧ ρ 16 = int (spansE sp (varsOf l)) ∧ ρ 17 = .v (.slice none 0 0) ∧ ρ 18 = .v (.pointer (some ⟨b18, 0, none⟩)) ∧ ρ 19 = .v (.bool (pairP l).2) ∧ ρ 99 = int (([] : List Rg)).length ∧ ρ 100 = int k) ∧ Drop σ' σ ∧ σ' b11 = some (.row [slS ((pairP l).1)] 1 1) ∧ σ' b18 = some (.row [slS (pairP l).1] 1 1)) (by kernel_rfl)
              ⟨by simp only [go_sem, Nat.reduceEqDiff, ↓reduceIte, Nat.reduceAdd, Nat.reduceMul, Nat.reduceLeDiff, Int.reduceLT, Int.reduceLE, Int.reduceToNat, h4, h5, w1, w2, n18, n18', narrowA, Option.getD_none, Option.getD_some, List.length_nil], by repeat (first | exact Drop.refl _ | assumption | refine Drop.upd ?_ (by assumption)), by simp only [go_sem, Nat.reduceEqDiff, ↓reduceIte, Nat.reduceAdd, Nat.reduceMul, Nat.reduceLeDiff, Int.reduceLT, Int.reduceLE, Int.reduceToNat, n18, n18']; try rfl, by simp only [go_sem, Nat.reduceEqDiff, ↓reduceIte, Nat.reduceAdd, Nat.reduceMul, Nat.reduceLeDiff, Int.reduceLT, Int.reduceLE, Int.reduceToNat, n18, n18']; try rfl⟩ ?_
            rintro k ρ σ' ds hk ⟨⟨rfl, h0, h2, h7, h8, h9, h10, h11, h12, h13, h14, h15, h16, h17, h18, h19, h99, h100⟩, hD, hs11, hs18⟩
            rcases get_or_end (([] : List Rg)) k hk with ⟨x, hx, hlt, hd⟩ | hk
            · exact absurd hlt (Nat.not_lt_zero _)
            · simp only [go_sem, Nat.reduceEqDiff, ↓reduceIte, Nat.reduceAdd, Nat.reduceMul, Nat.reduceLeDiff, Int.reduceLT, Int.reduceLE, Int.reduceToNat, h0, h2, h7, h8, h9, h10, h11, h12, h13, h14, h15, h16, h17, h18, h19, h99, h100, hk, Nat.lt_irrefl, beq_self_eq_true, eq_self_iff_true, decide_true, hs11, hs18, true_and]
              by_cases hv0 : valuesE vs (varsOf l) = 0
              · have hm : ∀ t ∈ l, vs.length = t.coeffs.length := fun t ht => by
                  have h7 := (whenE_zero (by decide)).1 ((firstE_zero _).1 hv0 (whenE (!decide ((vs.length : Int) = varsOf l)) 2) (by simp))
                  simp at h7
                  have := (hT t ht).len
                  omega
                simp only [go_sem, Nat.reduceEqDiff, ↓reduceIte, Nat.reduceAdd, Nat.reduceMul, Nat.reduceLeDiff, Int.reduceLT, Int.reduceLE, Int.reduceToNat, h0, h2, h7, h8, h9, h10, h11, h12, h13, h14, h15, h16, h17, h18, h19, hs11, hs18, hv0, Bool.true_and]
                refine callB_use (f89 l vs (by omega) hvF hm) rfl ?_
                simp only [go_sem, Nat.reduceEqDiff, ↓reduceIte, Nat.reduceAdd, Nat.reduceMul, Nat.reduceLeDiff, Int.reduceLT, Int.reduceLE, Int.reduceToNat, h0, h2, h7, h8, h9, h10, h11, h12, h13, h14, h15, h16, h17, h18, h19, hs11, hs18, hv0, Bool.true_and, beq_self_eq_true, eq_self_iff_true, decide_true]
                refine dcallB_use (f91 ((pairP l).1) (by exact hpf.1)) rfl ?_
                simp only [go_sem, Nat.reduceEqDiff, ↓reduceIte, Nat.reduceAdd, Nat.reduceMul, Nat.reduceLeDiff, Int.reduceLT, Int.reduceLE, Int.reduceToNat, h0, h2, h7, h8, h9, h10, h11, h12, h13, h14, h15, h16, h17, h18, h19, hs11, hs18]
                refine callB_fz (f90 ((pairP l).1) ((pairP l).1) hpf.1 hpf.2) (.cons (.refl _) (.cons (.agg (.cons (.refl _) .nil)) .nil)) ?_
                simp only [go_sem, Nat.reduceEqDiff, ↓reduceIte, Nat.reduceAdd, Nat.reduceMul, Nat.reduceLeDiff, Int.reduceLT, Int.reduceLE, Int.reduceToNat, h12, h13, h14, h19, eq_self_iff_true, decide_true, beq_self_eq_true]
                refine callB_use (f22 hG1 hG3) rfl ?_
                simp only [go_sem, Nat.reduceEqDiff, ↓reduceIte, Nat.reduceAdd, Nat.reduceMul, Nat.reduceLeDiff, Int.reduceLT, Int.reduceLE, Int.reduceToNat]
                exact retP_drop hD rfl
              · simp only [go_sem, Nat.reduceEqDiff, ↓reduceIte, Nat.reduceAdd, Nat.reduceMul, Nat.reduceLeDiff, Int.reduceLT, Int.reduceLE, Int.reduceToNat, h0, h2, h7, h8, h9, h10, h11, h12, h13, h14, h15, h16, h17, h18, h19, hs11, hs18, hv0, Bool.false_and, beq_self_eq_true, eq_self_iff_true, decide_true]
                refine dcallB_use (f91 ((pairP l).1) (by exact hpf.1)) rfl ?_
                simp only [go_sem, Nat.reduceEqDiff, ↓reduceIte, Nat.reduceAdd, Nat.reduceMul, Nat.reduceLeDiff, Int.reduceLT, Int.reduceLE, Int.reduceToNat, h0, h2, h7, h8, h9, h10, h11, h12, h13, h14, h15, h16, h17, h18, h19, hs11, hs18]
                refine callB_fz (f90 ((pairP l).1) ((pairP l).1) hpf.1 hpf.2) (.cons (.refl _) (.cons (.agg (.cons (.refl _) .nil)) .nil)) ?_
                simp only [go_sem, Nat.reduceEqDiff, ↓reduceIte, Nat.reduceAdd, Nat.reduceMul, Nat.reduceLeDiff, Int.reduceLT, Int.reduceLE, Int.reduceToNat, h12, h13, h14, h19, eq_self_iff_true, decide_true, beq_self_eq_true]
                refine callB_use (f22 hG1 hG3) rfl ?_
                simp only [go_sem, Nat.reduceEqDiff, ↓reduceIte, Nat.reduceAdd, Nat.reduceMul, Nat.reduceLeDiff, Int.reduceLT, Int.reduceLE, Int.reduceToNat]
                exact retP_drop hD rfl
        · have e1 : IsModelP l vs = (false, checkTermsE l) := by rw [IsModelP, if_neg h4]
          have hN : NarrowedP l sp = ([], checkTermsE l) := by rw [NarrowedP, if_neg h4]
          have hpf : Fits ([] : List St).length ∧ ∀ s ∈ ([] : List St), Fits s.factors.length := ⟨by simp, fun s hs => by cases hs⟩
          rw [e1]
          simp only [go_sem, Nat.reduceEqDiff, ↓reduceIte, Nat.reduceAdd, Nat.reduceMul, Nat.reduceLeDiff, Int.reduceLT, Int.reduceLE, Int.reduceToNat, h4, n18, n18', hN]
          refine SemC.loopK mixed (([] : List Rg)).length (fun k ρ σ' ds => (ds = [] ∧ ρ 0 = slT l ∧ ρ 2 = slI vs ∧ ρ 7 = .v (.bool false) ∧ ρ 8 = int (checkTermsE l) ∧ ρ 9 = slR (([] : List Rg)) ∧ ρ 10 = int (checkTermsE l) ∧ ρ 11 = .v (.pointer (some ⟨b11, 0, none⟩)) ∧ ρ 12 = .v (.bool false) ∧ ρ 13 = int (checkTermsE l) ∧ ρ 14 = int (checkTermsE l) ∧ ρ 15 = int (checkTermsE l) ∧ ρ 16 = int (checkTermsE l) ∧ ρ 17 = .v (.slice none 0 0) ∧ ρ 18 = .v (.pointer (some ⟨b18, 0, none⟩)) ∧ ρ 19 = .v (.bool false) ∧ ρ 99 = int (([] : List Rg)).length ∧ ρ 100 = int k) ∧ Drop σ' σ ∧ σ' b11 = some (.row [slS (([] : List St))] 1 1) ∧ σ' b18 = some (.row [.v (.slice none 0 0)] 1 1)) (by kernel_rfl)
            ⟨by simp only [go_sem, Nat.reduceEqDiff, ↓reduceIte, Nat.reduceAdd, Nat.reduceMul, Nat.reduceLeDiff, Int.reduceLT, Int.reduceLE, Int.reduceToNat, h4, w1, Bool.false_and, n18, n18', narrowA, Option.getD_none, Option.getD_some, List.length_nil], by repeat (first | exact Drop.refl _ | assumption | refine Drop.upd ?_ (by assumption)), by simp only [go_sem, Nat.reduceEqDiff, ↓reduceIte, Nat.reduceAdd, Nat.reduceMul, Nat.reduceLeDiff, Int.reduceLT, Int.reduceLE, Int.reduceToNat, n18, n18']; try rfl, by simp only [go_sem, Nat.reduceEqDiff, ↓reduceIte, Nat.reduceAdd, Nat.reduceMul, Nat.reduceLeDiff, Int.reduceLT, Int.reduceLE, Int.reduceToNat, n18, n18']; try rfl⟩ ?_
          rintro k ρ σ' ds hk ⟨⟨rfl, h0, h2, h7, h8, h9, h10, h11, h12, h13, h14, h15, h16, h17, h18, h19, h99, h100⟩, hD, hs11, hs18⟩
          rcases get_or_end (([] : List Rg)) k hk with ⟨x, hx, hlt, hd⟩ | hk
          · exact absurd hlt (Nat.not_lt_zero _)
          · simp only [go_sem, Nat.reduceEqDiff, ↓reduceIte, Nat.reduceAdd, Nat.reduceMul, Nat.reduceLeDiff, Int.reduceLT, Int.reduceLE, Int.reduceToNat, h0, h2, h7, h8, h9, h10, h11, h12, h13, h14, h15, h16, h17, h18, h19, h99, h100, hk, Nat.lt_irrefl, beq_self_eq_true, eq_self_iff_true, decide_true, hs11, hs18, h4]
            refine dcallB_use (f91 (([] : List St)) (by exact hpf.1)) rfl ?_
            simp only [go_sem, Nat.reduceEqDiff, ↓reduceIte, Nat.reduceAdd, Nat.reduceMul, Nat.reduceLeDiff, Int.reduceLT, Int.reduceLE, Int.reduceToNat, h0, h2, h7, h8, h9, h10, h11, h12, h13, h14, h15, h16, h17, h18, h19, hs11, hs18]
            refine callB_fz (f90 (([] : List St)) (([] : List St)) hpf.1 hpf.2) (.cons (.refl _) (.cons (.agg (.cons .nil .nil)) .nil)) ?_
            simp only [go_sem, Nat.reduceEqDiff, ↓reduceIte, Nat.reduceAdd, Nat.reduceMul, Nat.reduceLeDiff, Int.reduceLT, Int.reduceLE, Int.reduceToNat, h12, h13, h14, h19, eq_self_iff_true, decide_true, beq_self_eq_true]
            refine callB_use (f22 hG1 hG3) rfl ?_
            simp only [go_sem, Nat.reduceEqDiff, ↓reduceIte, Nat.reduceAdd, Nat.reduceMul, Nat.reduceLeDiff, Int.reduceLT, Int.reduceLE, Int.reduceToNat]
            exact retP_drop hD rfl
end Go.AL
