/- ProveTrue. -/
import Derived.Test.YtjimmpldofoimaaGreatDoorLa
import Derived.Test.YtjimmpldofoimaaGreatDoorWm
set_option linter.unusedVariables false
set_option linter.unusedSimpArgs false
namespace Go.AL
open Go.Proofs
variable {Γ : Glob}
attribute [local irreducible] codeW opsW dopsW
@[reducible] noncomputable def p12z (Γ : Glob) : Par := par Γ [11] [(4, [false, true]), (9, [false, true]), (1000018, [true])] [(4, [0, 1, 0, 7, 15, 31, 63, 63, 127, 511]), (9, [0, 1, 0, 7, 15, 31, 31, 63, 255]), (24, [0, 0, 3, 7, 15, 0, 0, 96, 224, 480, 1023, 2047, 4095, 4095, 16383, 32767, 65535, 4095, 4095, 397311, 921599, 1970175, 4194303, 8388607, 16777215, 33554431, 67108863, 134217727, 134217727, 536870911, 1073741823, 134217727, 134217727, 6576668671, 15166603263, 32346472447, 68719476735, 137438953471, 274877906943, 274877906943, 1099511627775, 2199023255551, 274877906943, 274877906943, 13469017440255, 31061203484671, 66245575573503, 140737488355327, 281474976710655, 562949953421311, 1125899906842623])]
theorem ok12z (Γ : Glob) : FnOk (p12z Γ) 12 279 (Tryz.f12.body.getD .skip) Tryz.f12.results.toList 3 := fnOk (par_mixed _ _ _ _) Tryz.func12 rfl rfl rfl (by kernel_rfl) (Nat.le_of_ble_eq_true rfl) (by kernel_rfl)
set_option maxHeartbeats 4000000 in
set_option maxRecDepth 20000 in
theorem f12 (hG1 : Γ 1 = some [int 0, int 0]) (hG3 : Γ 3 = some kindsT) (l : List Tm) (p : List St) (vs : List Int) (hl : l.length ≤ 9223372036854775807) (hp : p.length ≤ 9223372036854775807) (hv : vs.length ≤ 9223372036854775807) : PCalls Tryz.prog Γ 12 [slT l, prA p, slI vs] (.v (.bool true)) := by
  have c30 : ((30 : Int) = 0) = False := eq_false (by decide)
  have c28' : ((28 : Int) = 0) = False := eq_false (by decide)
  refine pcalls (ok12z Γ) fun σ => ?_
  simp only [go_sem, Nat.reduceEqDiff, ↓reduceIte, Nat.reduceAdd, Nat.reduceMul, Nat.reduceLeDiff, Int.reduceLT, Int.reduceLE, Int.reduceToNat, Tryz.f12]
  refine callB_use (f20 l hl) rfl ?_
  cases h1 : shortTermsB l with
  | false =>
    simp only [go_sem, Nat.reduceEqDiff, ↓reduceIte, Nat.reduceAdd, Nat.reduceMul, Nat.reduceLeDiff, Int.reduceLT, Int.reduceLE, Int.reduceToNat]
    refine callB_use (f22 hG1 hG3) rfl ?_
    simp only [go_sem, Nat.reduceEqDiff, ↓reduceIte, Nat.reduceAdd, Nat.reduceMul, Nat.reduceLeDiff, Int.reduceLT, Int.reduceLE, Int.reduceToNat]
  | true =>
    obtain ⟨a1, a2⟩ := shortTerms_ok h1
    have hc : ∀ t ∈ l, Fits t.coeffs.length := fun t ht => by have := a2 t ht; omega
    have c28 := f28 (Γ := Γ) l (by omega) hc
    rw [← checkTerms_eq] at c28
    simp only [go_sem, Nat.reduceEqDiff, ↓reduceIte, Nat.reduceAdd, Nat.reduceMul, Nat.reduceLeDiff, Int.reduceLT, Int.reduceLE, Int.reduceToNat]
    refine callB_use (c28) rfl ?_
    by_cases h3 : checkTermsE l = 0
    · simp only [go_sem, Nat.reduceEqDiff, ↓reduceIte, Nat.reduceAdd, Nat.reduceMul, Nat.reduceLeDiff, Int.reduceLT, Int.reduceLE, Int.reduceToNat, h3]
      refine callB_use (f21 p hp) rfl ?_
      cases h4 : shortB p with
      | false =>
        simp only [go_sem, Nat.reduceEqDiff, ↓reduceIte, Nat.reduceAdd, Nat.reduceMul, Nat.reduceLeDiff, Int.reduceLT, Int.reduceLE, Int.reduceToNat]
        refine callB_use (f22 hG1 hG3) rfl ?_
        simp only [go_sem, Nat.reduceEqDiff, ↓reduceIte, Nat.reduceAdd, Nat.reduceMul, Nat.reduceLeDiff, Int.reduceLT, Int.reduceLE, Int.reduceToNat]
      | true =>
        obtain ⟨b1, b2⟩ := short_ok h4
        have hpF : Fits p.length := by omega
        have hpc : ∀ s ∈ p, Fits s.factors.length := fun s hs => by have := b2 s hs; omega
        simp only [go_sem, Nat.reduceEqDiff, ↓reduceIte, Nat.reduceAdd, Nat.reduceMul, Nat.reduceLeDiff, Int.reduceLT, Int.reduceLE, Int.reduceToNat]
        refine callB_use (f35 l) rfl ?_
        simp only [go_sem, Nat.reduceEqDiff, ↓reduceIte, Nat.reduceAdd, Nat.reduceMul, Nat.reduceLeDiff, Int.reduceLT, Int.reduceLE, Int.reduceToNat]
        obtain ⟨hne, _, hts⟩ := terms_ok h3
        have hm8 : varsOf l ≤ 8 := by
          cases l with
          | nil => exact absurd rfl hne
          | cons t l => exact (hts t List.mem_cons_self).2.2
        refine callB_use (f45 vs _ (fun h => by omega)) rfl ?_
        by_cases h5 : valuesE vs (varsOf l) = 0
        · have hF := trueF p h3 h5
          have hvF : Fits vs.length := by have := (values_ok.1 h5).1; omega
          have hpf := pairP_fits l (by omega)
          have hsl := spansF_len vs 0
          have hM := hF.model
          simp only [go_sem, Nat.reduceEqDiff, ↓reduceIte, Nat.reduceAdd, Nat.reduceMul, Nat.reduceLeDiff, Int.reduceLT, Int.reduceLE, Int.reduceToNat, h5]
          refine callB_use (f24 l (by omega) hc) rfl ?_
          simp only [go_sem, Nat.reduceEqDiff, ↓reduceIte, Nat.reduceAdd, Nat.reduceMul, Nat.reduceLeDiff, Int.reduceLT, Int.reduceLE, Int.reduceToNat]
          refine callB_use (f84 vs hvF) rfl ?_
          simp only [go_sem, Nat.reduceEqDiff, ↓reduceIte, Nat.reduceAdd, Nat.reduceMul, Nat.reduceLeDiff, Int.reduceLT, Int.reduceLE, Int.reduceToNat]
          refine callB_use (f83 l vs (by omega) hc hvF) rfl ?_
          simp only [go_sem, Nat.reduceEqDiff, ↓reduceIte, Nat.reduceAdd, Nat.reduceMul, Nat.reduceLeDiff, Int.reduceLT, Int.reduceLE, Int.reduceToNat, hM]
          refine dcallB_use (f24 l (by omega) hc) rfl ?_
          simp only [go_sem, Nat.reduceEqDiff, ↓reduceIte, Nat.reduceAdd, Nat.reduceMul, Nat.reduceLeDiff, Int.reduceLT, Int.reduceLE, Int.reduceToNat]
          refine callB_use (f25 p hpF hpc) rfl ?_
          simp only [go_sem, Nat.reduceEqDiff, ↓reduceIte, Nat.reduceAdd, Nat.reduceMul, Nat.reduceLeDiff, Int.reduceLT, Int.reduceLE, Int.reduceToNat]
          refine callB_use (f23 l p (by omega) hc hpF hpc hG1) rfl ?_
          simp only [go_sem, Nat.reduceEqDiff, ↓reduceIte, Nat.reduceAdd, Nat.reduceMul, Nat.reduceLeDiff, Int.reduceLT, Int.reduceLE, Int.reduceToNat]
          refine callB_use (f24 l (by omega) hc) rfl ?_
          simp only [go_sem, Nat.reduceEqDiff, ↓reduceIte, Nat.reduceAdd, Nat.reduceMul, Nat.reduceLeDiff, Int.reduceLT, Int.reduceLE, Int.reduceToNat]
          refine callB_use (f86 l (by omega) hc) rfl ?_
          simp only [go_sem, Nat.reduceEqDiff, ↓reduceIte, Nat.reduceAdd, Nat.reduceMul, Nat.reduceLeDiff, Int.reduceLT, Int.reduceLE, Int.reduceToNat, h3]
          intro b11 hb11
          by_cases he2 : (checkP l p).2 = 0
          · have hno := hF.check he2
            simp only [go_sem, Nat.reduceEqDiff, ↓reduceIte, Nat.reduceAdd, Nat.reduceMul, Nat.reduceLeDiff, Int.reduceLT, Int.reduceLE, Int.reduceToNat, he2, hno]
            cases hfd : (pairP l).2 with
            | true =>
              obtain ⟨hpc, hno⟩ := hF.pair hfd
              simp only [go_sem, Nat.reduceEqDiff, ↓reduceIte, Nat.reduceAdd, Nat.reduceMul, Nat.reduceLeDiff, Int.reduceLT, Int.reduceLE, Int.reduceToNat, hfd, hno, he2, hno]
              refine dcallB_use (f24 l (by omega) hc) rfl ?_
              simp only [go_sem, Nat.reduceEqDiff, ↓reduceIte, Nat.reduceAdd, Nat.reduceMul, Nat.reduceLeDiff, Int.reduceLT, Int.reduceLE, Int.reduceToNat, hfd, hno, he2, hno]
              refine callB_use (f23 l _ (by omega) hc hpf.1 hpf.2 hG1) rfl ?_
              simp only [go_sem, Nat.reduceEqDiff, ↓reduceIte, Nat.reduceAdd, Nat.reduceMul, Nat.reduceLeDiff, Int.reduceLT, Int.reduceLE, Int.reduceToNat, hpc, hno]
              refine SemC.loopK mixed vs.length (fun k ρ σ' ds => (ds = [] ∧ ρ 0 = slT l ∧ ρ 2 = slI vs ∧ ρ 7 = .v (.bool (modelB l vs)) ∧ ρ 102 = slI vs ∧ ρ 103 = int vs.length ∧ ρ 104 = int k) ∧ Drop σ' σ ∧ Grow σ σ' 2 (ρ 16) (((spansF 0 vs).take k).flatMap rgC) k) (by kernel_rfl) ⟨by simp only [go_sem, Nat.reduceEqDiff, ↓reduceIte, Nat.reduceAdd, Nat.reduceMul, Nat.reduceLeDiff, Int.reduceLT, Int.reduceLE, Int.reduceToNat, hno], by repeat (first | exact Drop.refl _ | assumption | refine Drop.upd ?_ (by assumption)), .nil _ _ _⟩ ?_
              rintro k ρ σ' ds hk ⟨⟨rfl, h0, h2, h7, h102, h103, h104⟩, hD, hG⟩
              rcases get_or_end vs k hk with ⟨v, hv', hlt, hd⟩ | hk
              · simp only [go_sem, Nat.reduceEqDiff, ↓reduceIte, Nat.reduceAdd, Nat.reduceMul, Nat.reduceLeDiff, Int.reduceLT, Int.reduceLE, Int.reduceToNat, h0, h2, h7, h102, h103, h104, hlt, hv']
                refine appB_sl (appT_sl el45 tk97 by97 el45 (by decide) rfl (by decide)) hD hG rfl rfl (by omega) (fun a' σ2 hD2 hO hG2 => ?_)
                simp only [go_sem, Nat.reduceEqDiff, ↓reduceIte, Nat.reduceAdd, Nat.reduceMul, Nat.reduceLeDiff, Int.reduceLT, Int.reduceLE, Int.reduceToNat, h0, h2, h7, h102, h103, h104]
                refine ⟨by rw [wrap_succ _ (by omega)], hD2, ?_⟩
                have hg := spansF_get vs 0 k v hv'
                rw [Nat.zero_add] at hg
                rw [take_succ hg, List.flatMap_append]
                simpa [rgC, int, spanAt] using hG2
              · subst hk
                rw [← hsl, List.take_length, hsl] at hG
                simp only [go_sem, Nat.reduceEqDiff, ↓reduceIte, Nat.reduceAdd, Nat.reduceMul, Nat.reduceLeDiff, Int.reduceLT, Int.reduceLE, Int.reduceToNat, h0, h2, h7, h102, h103, h104, Nat.lt_irrefl]
                refine frzB_grow 16 rfl hG hD (fun σ2 hD2 _ => ?_)
                have e16 : AV.sl ((spansF 0 vs).flatMap rgC) vs.length = slR (spansF 0 vs) := by rw [slR, hsl]
                rw [e16]
                simp only [go_sem, Nat.reduceEqDiff, ↓reduceIte, Nat.reduceAdd, Nat.reduceMul, Nat.reduceLeDiff, Int.reduceLT, Int.reduceLE, Int.reduceToNat, h0, h2, h7]
                rcases hF.narrow with ⟨hN, hno⟩ | ⟨s, hN, hsl2, hin⟩
                · refine callB_use (f24 l (by omega) hc) rfl ?_
                  simp only [go_sem, Nat.reduceEqDiff, ↓reduceIte, Nat.reduceAdd, Nat.reduceMul, Nat.reduceLeDiff, Int.reduceLT, Int.reduceLE, Int.reduceToNat, h0, h2, h7]
                  refine callB_use (f32 (spansF 0 vs) (by rw [hsl]; exact hvF)) rfl ?_
                  simp only [go_sem, Nat.reduceEqDiff, ↓reduceIte, Nat.reduceAdd, Nat.reduceMul, Nat.reduceLeDiff, Int.reduceLT, Int.reduceLE, Int.reduceToNat, h0, h2, h7]
                  refine callB_use (f85 l (spansF 0 vs) (by omega) hc (by rw [hsl]; exact hvF)) rfl ?_
                  simp only [go_sem, Nat.reduceEqDiff, ↓reduceIte, Nat.reduceAdd, Nat.reduceMul, Nat.reduceLeDiff, Int.reduceLT, Int.reduceLE, Int.reduceToNat, hN, hno, c28', h0, h2, h7, eq_self_iff_true, decide_true]
                  refine SemC.loopK mixed 0 (fun k ρ σ' ds => (ds = [] ∧ ρ 0 = slT l ∧ ρ 2 = slI vs ∧ ρ 7 = .v (.bool (modelB l vs)) ∧ ρ 16 = slR (spansF 0 vs) ∧ ρ 149 = slR [] ∧ ρ 150 = int 0 ∧ ρ 151 = int k) ∧ Drop σ' σ) (by kernel_rfl) ⟨by simp only [go_sem, Nat.reduceEqDiff, ↓reduceIte, Nat.reduceAdd, Nat.reduceMul, Nat.reduceLeDiff, Int.reduceLT, Int.reduceLE, Int.reduceToNat, hno, h0, h2, h7, List.length_nil], by assumption⟩ ?_
                  rintro k ρ σ' ds hk ⟨⟨rfl, h0, h2, h7, h16, h149, h150, h151⟩, hD⟩
                  have hk0 : k = 0 := by omega
                  subst hk0
                  simp only [go_sem, Nat.reduceEqDiff, ↓reduceIte, Nat.reduceAdd, Nat.reduceMul, Nat.reduceLeDiff, Int.reduceLT, Int.reduceLE, Int.reduceToNat, h0, h2, h7, h16, h149, h150, h151, Int.lt_irrefl, Nat.lt_irrefl]
                  rcases hF.search with ⟨M, h30 | ⟨hS, hno⟩ | ⟨hS, hMl, hMv, hMm, hMi⟩⟩
                  · generalize hSv : SearchP l (spansF 0 vs) 200 = S at h30
                    refine callB_use (f24 l (by omega) hc) rfl ?_
                    simp only [go_sem, Nat.reduceEqDiff, ↓reduceIte, Nat.reduceAdd, Nat.reduceMul, Nat.reduceLeDiff, Int.reduceLT, Int.reduceLE, Int.reduceToNat, h0, h2, h7, h16]
                    refine callB_use (f32 (spansF 0 vs) (by rw [hsl]; exact hvF)) rfl ?_
                    simp only [go_sem, Nat.reduceEqDiff, ↓reduceIte, Nat.reduceAdd, Nat.reduceMul, Nat.reduceLeDiff, Int.reduceLT, Int.reduceLE, Int.reduceToNat, h0, h2, h7, h16]
                    refine callB_use (f31 l (spansF 0 vs) 200 (by omega) hc (by rw [hsl]; exact hvF)) rfl ?_
                    simp only [go_sem, Nat.reduceEqDiff, ↓reduceIte, Nat.reduceAdd, Nat.reduceMul, Nat.reduceLeDiff, Int.reduceLT, Int.reduceLE, Int.reduceToNat, hSv, h30, c30, h0, h2, h7, h16, eq_self_iff_true, decide_true]
                    refine callB_use (f22 hG1 hG3) rfl ?_
                    simp only [go_sem, Nat.reduceEqDiff, ↓reduceIte, Nat.reduceAdd, Nat.reduceMul, Nat.reduceLeDiff, Int.reduceLT, Int.reduceLE, Int.reduceToNat]
                    exact retP_drop (by assumption) rfl
                  · refine callB_use (f24 l (by omega) hc) rfl ?_
                    simp only [go_sem, Nat.reduceEqDiff, ↓reduceIte, Nat.reduceAdd, Nat.reduceMul, Nat.reduceLeDiff, Int.reduceLT, Int.reduceLE, Int.reduceToNat, h0, h2, h7, h16]
                    refine callB_use (f32 (spansF 0 vs) (by rw [hsl]; exact hvF)) rfl ?_
                    simp only [go_sem, Nat.reduceEqDiff, ↓reduceIte, Nat.reduceAdd, Nat.reduceMul, Nat.reduceLeDiff, Int.reduceLT, Int.reduceLE, Int.reduceToNat, h0, h2, h7, h16]
                    refine callB_use (f31 l (spansF 0 vs) 200 (by omega) hc (by rw [hsl]; exact hvF)) rfl ?_
                    simp only [go_sem, Nat.reduceEqDiff, ↓reduceIte, Nat.reduceAdd, Nat.reduceMul, Nat.reduceLeDiff, Int.reduceLT, Int.reduceLE, Int.reduceToNat, hS, hno, h0, h2, h7, h16, List.length_nil]
                    refine callB_use (f22 hG1 hG3) rfl ?_
                    simp only [go_sem, Nat.reduceEqDiff, ↓reduceIte, Nat.reduceAdd, Nat.reduceMul, Nat.reduceLeDiff, Int.reduceLT, Int.reduceLE, Int.reduceToNat]
                    exact retP_drop (by assumption) rfl
                  · refine callB_use (f24 l (by omega) hc) rfl ?_
                    simp only [go_sem, Nat.reduceEqDiff, ↓reduceIte, Nat.reduceAdd, Nat.reduceMul, Nat.reduceLeDiff, Int.reduceLT, Int.reduceLE, Int.reduceToNat, h0, h2, h7, h16]
                    refine callB_use (f32 (spansF 0 vs) (by rw [hsl]; exact hvF)) rfl ?_
                    simp only [go_sem, Nat.reduceEqDiff, ↓reduceIte, Nat.reduceAdd, Nat.reduceMul, Nat.reduceLeDiff, Int.reduceLT, Int.reduceLE, Int.reduceToNat, h0, h2, h7, h16]
                    refine callB_use (f31 l (spansF 0 vs) 200 (by omega) hc (by rw [hsl]; exact hvF)) rfl ?_
                    simp only [go_sem, Nat.reduceEqDiff, ↓reduceIte, Nat.reduceAdd, Nat.reduceMul, Nat.reduceLeDiff, Int.reduceLT, Int.reduceLE, Int.reduceToNat, hS, h0, h2, h7, h16]
                    refine callB_use (f45 M _ (fun _ => by rw [hMl]; exact hvF)) rfl ?_
                    simp only [go_sem, Nat.reduceEqDiff, ↓reduceIte, Nat.reduceAdd, Nat.reduceMul, Nat.reduceLeDiff, Int.reduceLT, Int.reduceLE, Int.reduceToNat, hMv, h0, h2, h7, h16]
                    refine SemC.loopK mixed M.length (fun k ρ σ' ds => (ds = [] ∧ ρ 0 = slT l ∧ ρ 22 = slI M ∧ ρ 16 = slR (spansF 0 vs) ∧ ρ 239 = slI M ∧ ρ 240 = int M.length ∧ ρ 241 = int k) ∧ Drop σ' σ) (by kernel_rfl) ⟨by simp only [go_sem, Nat.reduceEqDiff, ↓reduceIte, Nat.reduceAdd, Nat.reduceMul, Nat.reduceLeDiff, Int.reduceLT, Int.reduceLE, Int.reduceToNat, h0, h2, h7, h16], by assumption⟩ ?_
                    rintro k ρ σ' ds hk ⟨⟨rfl, h0, h22, h16, h239, h240, h241⟩, hD⟩
                    rcases get_or_end M k hk with ⟨v, hv', hlt, hd⟩ | hk
                    · obtain ⟨r, hr⟩ : ∃ r, (spansF 0 vs)[k]? = some r := get_of_len (hMl.trans hsl.symm) hv'
                      have hb := hMi k v r hv' hr
                      have c1 : ¬ v < r.lo := by omega
                      have c2 : ¬ r.hi < v := by omega
                      have hlt2 : k < (spansF 0 vs).length := by rw [hsl, ← hMl]; exact hlt
                      simp only [go_sem, Nat.reduceEqDiff, ↓reduceIte, Nat.reduceAdd, Nat.reduceMul, Nat.reduceLeDiff, Int.reduceLT, Int.reduceLE, Int.reduceToNat, h0, h22, h16, h239, h240, h241, hlt, hlt2, hv', ↓rg_get0 hr, ↓rg_get1 hr, c1, c2]
                      exact ⟨by rw [wrap_succ _ (by omega)], hD⟩
                    · subst hk
                      simp only [go_sem, Nat.reduceEqDiff, ↓reduceIte, Nat.reduceAdd, Nat.reduceMul, Nat.reduceLeDiff, Int.reduceLT, Int.reduceLE, Int.reduceToNat, h0, h22, h16, h239, h240, h241, Nat.lt_irrefl]
                      refine callB_use (f24 l (by omega) hc) rfl ?_
                      simp only [go_sem, Nat.reduceEqDiff, ↓reduceIte, Nat.reduceAdd, Nat.reduceMul, Nat.reduceLeDiff, Int.reduceLT, Int.reduceLE, Int.reduceToNat, h22]
                      refine callB_use (f84 M (by rw [hMl]; exact hvF)) rfl ?_
                      simp only [go_sem, Nat.reduceEqDiff, ↓reduceIte, Nat.reduceAdd, Nat.reduceMul, Nat.reduceLeDiff, Int.reduceLT, Int.reduceLE, Int.reduceToNat]
                      refine callB_use (f83 l M (by omega) hc (by rw [hMl]; exact hvF)) rfl ?_
                      simp only [go_sem, Nat.reduceEqDiff, ↓reduceIte, Nat.reduceAdd, Nat.reduceMul, Nat.reduceLeDiff, Int.reduceLT, Int.reduceLE, Int.reduceToNat, hMm]
                      refine callB_use (f22 hG1 hG3) rfl ?_
                      simp only [go_sem, Nat.reduceEqDiff, ↓reduceIte, Nat.reduceAdd, Nat.reduceMul, Nat.reduceLeDiff, Int.reduceLT, Int.reduceLE, Int.reduceToNat]
                      exact retP_drop hD rfl
                · have hq : ((s.length : Int) = vs.length) = True := eq_true (by omega)
                  refine callB_use (f24 l (by omega) hc) rfl ?_
                  simp only [go_sem, Nat.reduceEqDiff, ↓reduceIte, Nat.reduceAdd, Nat.reduceMul, Nat.reduceLeDiff, Int.reduceLT, Int.reduceLE, Int.reduceToNat, h0, h2, h7]
                  refine callB_use (f32 (spansF 0 vs) (by rw [hsl]; exact hvF)) rfl ?_
                  simp only [go_sem, Nat.reduceEqDiff, ↓reduceIte, Nat.reduceAdd, Nat.reduceMul, Nat.reduceLeDiff, Int.reduceLT, Int.reduceLE, Int.reduceToNat, h0, h2, h7]
                  refine callB_use (f85 l (spansF 0 vs) (by omega) hc (by rw [hsl]; exact hvF)) rfl ?_
                  simp only [go_sem, Nat.reduceEqDiff, ↓reduceIte, Nat.reduceAdd, Nat.reduceMul, Nat.reduceLeDiff, Int.reduceLT, Int.reduceLE, Int.reduceToNat, hN, hq, h0, h2, h7, eq_self_iff_true, decide_true]
                  refine SemC.loopK mixed s.length (fun k ρ σ' ds => (ds = [] ∧ ρ 0 = slT l ∧ ρ 2 = slI vs ∧ ρ 7 = .v (.bool (modelB l vs)) ∧ ρ 16 = slR (spansF 0 vs) ∧ ρ 19 = slR s ∧ ρ 149 = slR s ∧ ρ 150 = int s.length ∧ ρ 151 = int k) ∧ Drop σ' σ) (by kernel_rfl) ⟨by simp only [go_sem, Nat.reduceEqDiff, ↓reduceIte, Nat.reduceAdd, Nat.reduceMul, Nat.reduceLeDiff, Int.reduceLT, Int.reduceLE, Int.reduceToNat, h0, h2, h7], by assumption⟩ ?_
                  rintro k ρ σ' ds hk ⟨⟨rfl, h0, h2, h7, h16, h19, h149, h150, h151⟩, hD⟩
                  rcases get_or_end s k hk with ⟨a, ha, hlt, hd⟩ | hk
                  · obtain ⟨v, hv'⟩ : ∃ v, vs[k]? = some v := get_of_len hsl2 ha
                    obtain ⟨b, hb⟩ : ∃ b, (spansF 0 vs)[k]? = some b := get_of_len (hsl2.trans hsl.symm) ha
                    have hi := hin k v a b hv' ha hb
                    have c1 : ¬ a.lo < b.lo := by omega
                    have c2 : ¬ b.hi < a.hi := by omega
                    have hlt2 : k < (spansF 0 vs).length := by rw [hsl, ← hsl2]; exact hlt
                    have hlt3 : k < vs.length := by rw [← hsl2]; exact hlt
                    cases hmb : modelB l vs with
                    | true =>
                      have c3 : ¬ v < a.lo := by have := hi.2.2 hmb; omega
                      have c4 : ¬ a.hi < v := by have := hi.2.2 hmb; omega
                      simp only [go_sem, Nat.reduceEqDiff, ↓reduceIte, Nat.reduceAdd, Nat.reduceMul, Nat.reduceLeDiff, Int.reduceLT, Int.reduceLE, Int.reduceToNat, h0, h2, h7, h16, h19, h149, h150, h151, hlt, hlt2, hlt3, hv', ↓rg_get0 ha, ↓rg_get1 ha, ↓rg_get0 hb, ↓rg_get1 hb, c1, c2, c3, c4, hmb]
                      exact ⟨by rw [wrap_succ _ (by omega)], hD⟩
                    | false =>
                      simp only [go_sem, Nat.reduceEqDiff, ↓reduceIte, Nat.reduceAdd, Nat.reduceMul, Nat.reduceLeDiff, Int.reduceLT, Int.reduceLE, Int.reduceToNat, h0, h2, h7, h16, h19, h149, h150, h151, hlt, hlt2, hlt3, hv', ↓rg_get0 ha, ↓rg_get1 ha, ↓rg_get0 hb, ↓rg_get1 hb, c1, c2, hmb]
                      exact ⟨by rw [wrap_succ _ (by omega)], hD⟩
                  · subst hk
                    simp only [go_sem, Nat.reduceEqDiff, ↓reduceIte, Nat.reduceAdd, Nat.reduceMul, Nat.reduceLeDiff, Int.reduceLT, Int.reduceLE, Int.reduceToNat, h0, h2, h7, h16, h19, h149, h150, h151, Nat.lt_irrefl]
                    rcases hF.search with ⟨M, h30 | ⟨hS, hno⟩ | ⟨hS, hMl, hMv, hMm, hMi⟩⟩
                    · generalize hSv : SearchP l (spansF 0 vs) 200 = S at h30
                      refine callB_use (f24 l (by omega) hc) rfl ?_
                      simp only [go_sem, Nat.reduceEqDiff, ↓reduceIte, Nat.reduceAdd, Nat.reduceMul, Nat.reduceLeDiff, Int.reduceLT, Int.reduceLE, Int.reduceToNat, h0, h2, h7, h16]
                      refine callB_use (f32 (spansF 0 vs) (by rw [hsl]; exact hvF)) rfl ?_
                      simp only [go_sem, Nat.reduceEqDiff, ↓reduceIte, Nat.reduceAdd, Nat.reduceMul, Nat.reduceLeDiff, Int.reduceLT, Int.reduceLE, Int.reduceToNat, h0, h2, h7, h16]
                      refine callB_use (f31 l (spansF 0 vs) 200 (by omega) hc (by rw [hsl]; exact hvF)) rfl ?_
                      simp only [go_sem, Nat.reduceEqDiff, ↓reduceIte, Nat.reduceAdd, Nat.reduceMul, Nat.reduceLeDiff, Int.reduceLT, Int.reduceLE, Int.reduceToNat, hSv, h30, c30, h0, h2, h7, h16, eq_self_iff_true, decide_true]
                      refine callB_use (f22 hG1 hG3) rfl ?_
                      simp only [go_sem, Nat.reduceEqDiff, ↓reduceIte, Nat.reduceAdd, Nat.reduceMul, Nat.reduceLeDiff, Int.reduceLT, Int.reduceLE, Int.reduceToNat]
                      exact retP_drop (by assumption) rfl
                    · refine callB_use (f24 l (by omega) hc) rfl ?_
                      simp only [go_sem, Nat.reduceEqDiff, ↓reduceIte, Nat.reduceAdd, Nat.reduceMul, Nat.reduceLeDiff, Int.reduceLT, Int.reduceLE, Int.reduceToNat, h0, h2, h7, h16]
                      refine callB_use (f32 (spansF 0 vs) (by rw [hsl]; exact hvF)) rfl ?_
                      simp only [go_sem, Nat.reduceEqDiff, ↓reduceIte, Nat.reduceAdd, Nat.reduceMul, Nat.reduceLeDiff, Int.reduceLT, Int.reduceLE, Int.reduceToNat, h0, h2, h7, h16]
                      refine callB_use (f31 l (spansF 0 vs) 200 (by omega) hc (by rw [hsl]; exact hvF)) rfl ?_
                      simp only [go_sem, Nat.reduceEqDiff, ↓reduceIte, Nat.reduceAdd, Nat.reduceMul, Nat.reduceLeDiff, Int.reduceLT, Int.reduceLE, Int.reduceToNat, hS, hno, h0, h2, h7, h16, List.length_nil]
                      refine callB_use (f22 hG1 hG3) rfl ?_
                      simp only [go_sem, Nat.reduceEqDiff, ↓reduceIte, Nat.reduceAdd, Nat.reduceMul, Nat.reduceLeDiff, Int.reduceLT, Int.reduceLE, Int.reduceToNat]
                      exact retP_drop (by assumption) rfl
                    · refine callB_use (f24 l (by omega) hc) rfl ?_
                      simp only [go_sem, Nat.reduceEqDiff, ↓reduceIte, Nat.reduceAdd, Nat.reduceMul, Nat.reduceLeDiff, Int.reduceLT, Int.reduceLE, Int.reduceToNat, h0, h2, h7, h16]
                      refine callB_use (f32 (spansF 0 vs) (by rw [hsl]; exact hvF)) rfl ?_
                      simp only [go_sem, Nat.reduceEqDiff, ↓reduceIte, Nat.reduceAdd, Nat.reduceMul, Nat.reduceLeDiff, Int.reduceLT, Int.reduceLE, Int.reduceToNat, h0, h2, h7, h16]
                      refine callB_use (f31 l (spansF 0 vs) 200 (by omega) hc (by rw [hsl]; exact hvF)) rfl ?_
                      simp only [go_sem, Nat.reduceEqDiff, ↓reduceIte, Nat.reduceAdd, Nat.reduceMul, Nat.reduceLeDiff, Int.reduceLT, Int.reduceLE, Int.reduceToNat, hS, h0, h2, h7, h16]
                      refine callB_use (f45 M _ (fun _ => by rw [hMl]; exact hvF)) rfl ?_
                      simp only [go_sem, Nat.reduceEqDiff, ↓reduceIte, Nat.reduceAdd, Nat.reduceMul, Nat.reduceLeDiff, Int.reduceLT, Int.reduceLE, Int.reduceToNat, hMv, h0, h2, h7, h16]
                      refine SemC.loopK mixed M.length (fun k ρ σ' ds => (ds = [] ∧ ρ 0 = slT l ∧ ρ 22 = slI M ∧ ρ 16 = slR (spansF 0 vs) ∧ ρ 239 = slI M ∧ ρ 240 = int M.length ∧ ρ 241 = int k) ∧ Drop σ' σ) (by kernel_rfl) ⟨by simp only [go_sem, Nat.reduceEqDiff, ↓reduceIte, Nat.reduceAdd, Nat.reduceMul, Nat.reduceLeDiff, Int.reduceLT, Int.reduceLE, Int.reduceToNat, h0, h2, h7, h16], by assumption⟩ ?_
                      rintro k ρ σ' ds hk ⟨⟨rfl, h0, h22, h16, h239, h240, h241⟩, hD⟩
                      rcases get_or_end M k hk with ⟨v, hv', hlt, hd⟩ | hk
                      · obtain ⟨r, hr⟩ : ∃ r, (spansF 0 vs)[k]? = some r := get_of_len (hMl.trans hsl.symm) hv'
                        have hb := hMi k v r hv' hr
                        have c1 : ¬ v < r.lo := by omega
                        have c2 : ¬ r.hi < v := by omega
                        have hlt2 : k < (spansF 0 vs).length := by rw [hsl, ← hMl]; exact hlt
                        simp only [go_sem, Nat.reduceEqDiff, ↓reduceIte, Nat.reduceAdd, Nat.reduceMul, Nat.reduceLeDiff, Int.reduceLT, Int.reduceLE, Int.reduceToNat, h0, h22, h16, h239, h240, h241, hlt, hlt2, hv', ↓rg_get0 hr, ↓rg_get1 hr, c1, c2]
                        exact ⟨by rw [wrap_succ _ (by omega)], hD⟩
                      · subst hk
                        simp only [go_sem, Nat.reduceEqDiff, ↓reduceIte, Nat.reduceAdd, Nat.reduceMul, Nat.reduceLeDiff, Int.reduceLT, Int.reduceLE, Int.reduceToNat, h0, h22, h16, h239, h240, h241, Nat.lt_irrefl]
                        refine callB_use (f24 l (by omega) hc) rfl ?_
                        simp only [go_sem, Nat.reduceEqDiff, ↓reduceIte, Nat.reduceAdd, Nat.reduceMul, Nat.reduceLeDiff, Int.reduceLT, Int.reduceLE, Int.reduceToNat, h22]
                        refine callB_use (f84 M (by rw [hMl]; exact hvF)) rfl ?_
                        simp only [go_sem, Nat.reduceEqDiff, ↓reduceIte, Nat.reduceAdd, Nat.reduceMul, Nat.reduceLeDiff, Int.reduceLT, Int.reduceLE, Int.reduceToNat]
                        refine callB_use (f83 l M (by omega) hc (by rw [hMl]; exact hvF)) rfl ?_
                        simp only [go_sem, Nat.reduceEqDiff, ↓reduceIte, Nat.reduceAdd, Nat.reduceMul, Nat.reduceLeDiff, Int.reduceLT, Int.reduceLE, Int.reduceToNat, hMm]
                        refine callB_use (f22 hG1 hG3) rfl ?_
                        simp only [go_sem, Nat.reduceEqDiff, ↓reduceIte, Nat.reduceAdd, Nat.reduceMul, Nat.reduceLeDiff, Int.reduceLT, Int.reduceLE, Int.reduceToNat]
                        exact retP_drop hD rfl
            | false =>
              simp only [go_sem, Nat.reduceEqDiff, ↓reduceIte, Nat.reduceAdd, Nat.reduceMul, Nat.reduceLeDiff, Int.reduceLT, Int.reduceLE, Int.reduceToNat, hfd, he2, hno]
              refine SemC.loopK mixed vs.length (fun k ρ σ' ds => (ds = [] ∧ ρ 0 = slT l ∧ ρ 2 = slI vs ∧ ρ 7 = .v (.bool (modelB l vs)) ∧ ρ 102 = slI vs ∧ ρ 103 = int vs.length ∧ ρ 104 = int k) ∧ Drop σ' σ ∧ Grow σ σ' 2 (ρ 16) (((spansF 0 vs).take k).flatMap rgC) k) (by kernel_rfl) ⟨by simp only [go_sem, Nat.reduceEqDiff, ↓reduceIte, Nat.reduceAdd, Nat.reduceMul, Nat.reduceLeDiff, Int.reduceLT, Int.reduceLE, Int.reduceToNat, hno], by repeat (first | exact Drop.refl _ | assumption | refine Drop.upd ?_ (by assumption)), .nil _ _ _⟩ ?_
              rintro k ρ σ' ds hk ⟨⟨rfl, h0, h2, h7, h102, h103, h104⟩, hD, hG⟩
              rcases get_or_end vs k hk with ⟨v, hv', hlt, hd⟩ | hk
              · simp only [go_sem, Nat.reduceEqDiff, ↓reduceIte, Nat.reduceAdd, Nat.reduceMul, Nat.reduceLeDiff, Int.reduceLT, Int.reduceLE, Int.reduceToNat, h0, h2, h7, h102, h103, h104, hlt, hv']
                refine appB_sl (appT_sl el45 tk97 by97 el45 (by decide) rfl (by decide)) hD hG rfl rfl (by omega) (fun a' σ2 hD2 hO hG2 => ?_)
                simp only [go_sem, Nat.reduceEqDiff, ↓reduceIte, Nat.reduceAdd, Nat.reduceMul, Nat.reduceLeDiff, Int.reduceLT, Int.reduceLE, Int.reduceToNat, h0, h2, h7, h102, h103, h104]
                refine ⟨by rw [wrap_succ _ (by omega)], hD2, ?_⟩
                have hg := spansF_get vs 0 k v hv'
                rw [Nat.zero_add] at hg
                rw [take_succ hg, List.flatMap_append]
                simpa [rgC, int, spanAt] using hG2
              · subst hk
                rw [← hsl, List.take_length, hsl] at hG
                simp only [go_sem, Nat.reduceEqDiff, ↓reduceIte, Nat.reduceAdd, Nat.reduceMul, Nat.reduceLeDiff, Int.reduceLT, Int.reduceLE, Int.reduceToNat, h0, h2, h7, h102, h103, h104, Nat.lt_irrefl]
                refine frzB_grow 16 rfl hG hD (fun σ2 hD2 _ => ?_)
                have e16 : AV.sl ((spansF 0 vs).flatMap rgC) vs.length = slR (spansF 0 vs) := by rw [slR, hsl]
                rw [e16]
                simp only [go_sem, Nat.reduceEqDiff, ↓reduceIte, Nat.reduceAdd, Nat.reduceMul, Nat.reduceLeDiff, Int.reduceLT, Int.reduceLE, Int.reduceToNat, h0, h2, h7]
                rcases hF.narrow with ⟨hN, hno⟩ | ⟨s, hN, hsl2, hin⟩
                · refine callB_use (f24 l (by omega) hc) rfl ?_
                  simp only [go_sem, Nat.reduceEqDiff, ↓reduceIte, Nat.reduceAdd, Nat.reduceMul, Nat.reduceLeDiff, Int.reduceLT, Int.reduceLE, Int.reduceToNat, h0, h2, h7]
                  refine callB_use (f32 (spansF 0 vs) (by rw [hsl]; exact hvF)) rfl ?_
                  simp only [go_sem, Nat.reduceEqDiff, ↓reduceIte, Nat.reduceAdd, Nat.reduceMul, Nat.reduceLeDiff, Int.reduceLT, Int.reduceLE, Int.reduceToNat, h0, h2, h7]
                  refine callB_use (f85 l (spansF 0 vs) (by omega) hc (by rw [hsl]; exact hvF)) rfl ?_
                  simp only [go_sem, Nat.reduceEqDiff, ↓reduceIte, Nat.reduceAdd, Nat.reduceMul, Nat.reduceLeDiff, Int.reduceLT, Int.reduceLE, Int.reduceToNat, hN, hno, c28', h0, h2, h7, eq_self_iff_true, decide_true]
                  refine SemC.loopK mixed 0 (fun k ρ σ' ds => (ds = [] ∧ ρ 0 = slT l ∧ ρ 2 = slI vs ∧ ρ 7 = .v (.bool (modelB l vs)) ∧ ρ 16 = slR (spansF 0 vs) ∧ ρ 149 = slR [] ∧ ρ 150 = int 0 ∧ ρ 151 = int k) ∧ Drop σ' σ) (by kernel_rfl) ⟨by simp only [go_sem, Nat.reduceEqDiff, ↓reduceIte, Nat.reduceAdd, Nat.reduceMul, Nat.reduceLeDiff, Int.reduceLT, Int.reduceLE, Int.reduceToNat, hno, h0, h2, h7, List.length_nil], by assumption⟩ ?_
                  rintro k ρ σ' ds hk ⟨⟨rfl, h0, h2, h7, h16, h149, h150, h151⟩, hD⟩
                  have hk0 : k = 0 := by omega
                  subst hk0
                  simp only [go_sem, Nat.reduceEqDiff, ↓reduceIte, Nat.reduceAdd, Nat.reduceMul, Nat.reduceLeDiff, Int.reduceLT, Int.reduceLE, Int.reduceToNat, h0, h2, h7, h16, h149, h150, h151, Int.lt_irrefl, Nat.lt_irrefl]
                  rcases hF.search with ⟨M, h30 | ⟨hS, hno⟩ | ⟨hS, hMl, hMv, hMm, hMi⟩⟩
                  · generalize hSv : SearchP l (spansF 0 vs) 200 = S at h30
                    refine callB_use (f24 l (by omega) hc) rfl ?_
                    simp only [go_sem, Nat.reduceEqDiff, ↓reduceIte, Nat.reduceAdd, Nat.reduceMul, Nat.reduceLeDiff, Int.reduceLT, Int.reduceLE, Int.reduceToNat, h0, h2, h7, h16]
                    refine callB_use (f32 (spansF 0 vs) (by rw [hsl]; exact hvF)) rfl ?_
                    simp only [go_sem, Nat.reduceEqDiff, ↓reduceIte, Nat.reduceAdd, Nat.reduceMul, Nat.reduceLeDiff, Int.reduceLT, Int.reduceLE, Int.reduceToNat, h0, h2, h7, h16]
                    refine callB_use (f31 l (spansF 0 vs) 200 (by omega) hc (by rw [hsl]; exact hvF)) rfl ?_
                    simp only [go_sem, Nat.reduceEqDiff, ↓reduceIte, Nat.reduceAdd, Nat.reduceMul, Nat.reduceLeDiff, Int.reduceLT, Int.reduceLE, Int.reduceToNat, hSv, h30, c30, h0, h2, h7, h16, eq_self_iff_true, decide_true]
                    refine callB_use (f22 hG1 hG3) rfl ?_
                    simp only [go_sem, Nat.reduceEqDiff, ↓reduceIte, Nat.reduceAdd, Nat.reduceMul, Nat.reduceLeDiff, Int.reduceLT, Int.reduceLE, Int.reduceToNat]
                    exact retP_drop (by assumption) rfl
                  · refine callB_use (f24 l (by omega) hc) rfl ?_
                    simp only [go_sem, Nat.reduceEqDiff, ↓reduceIte, Nat.reduceAdd, Nat.reduceMul, Nat.reduceLeDiff, Int.reduceLT, Int.reduceLE, Int.reduceToNat, h0, h2, h7, h16]
                    refine callB_use (f32 (spansF 0 vs) (by rw [hsl]; exact hvF)) rfl ?_
                    simp only [go_sem, Nat.reduceEqDiff, ↓reduceIte, Nat.reduceAdd, Nat.reduceMul, Nat.reduceLeDiff, Int.reduceLT, Int.reduceLE, Int.reduceToNat, h0, h2, h7, h16]
                    refine callB_use (f31 l (spansF 0 vs) 200 (by omega) hc (by rw [hsl]; exact hvF)) rfl ?_
                    simp only [go_sem, Nat.reduceEqDiff, ↓reduceIte, Nat.reduceAdd, Nat.reduceMul, Nat.reduceLeDiff, Int.reduceLT, Int.reduceLE, Int.reduceToNat, hS, hno, h0, h2, h7, h16, List.length_nil]
                    refine callB_use (f22 hG1 hG3) rfl ?_
                    simp only [go_sem, Nat.reduceEqDiff, ↓reduceIte, Nat.reduceAdd, Nat.reduceMul, Nat.reduceLeDiff, Int.reduceLT, Int.reduceLE, Int.reduceToNat]
                    exact retP_drop (by assumption) rfl
                  · refine callB_use (f24 l (by omega) hc) rfl ?_
                    simp only [go_sem, Nat.reduceEqDiff, ↓reduceIte, Nat.reduceAdd, Nat.reduceMul, Nat.reduceLeDiff, Int.reduceLT, Int.reduceLE, Int.reduceToNat, h0, h2, h7, h16]
                    refine callB_use (f32 (spansF 0 vs) (by rw [hsl]; exact hvF)) rfl ?_
                    simp only [go_sem, Nat.reduceEqDiff, ↓reduceIte, Nat.reduceAdd, Nat.reduceMul, Nat.reduceLeDiff, Int.reduceLT, Int.reduceLE, Int.reduceToNat, h0, h2, h7, h16]
                    refine callB_use (f31 l (spansF 0 vs) 200 (by omega) hc (by rw [hsl]; exact hvF)) rfl ?_
                    simp only [go_sem, Nat.reduceEqDiff, ↓reduceIte, Nat.reduceAdd, Nat.reduceMul, Nat.reduceLeDiff, Int.reduceLT, Int.reduceLE, Int.reduceToNat, hS, h0, h2, h7, h16]
                    refine callB_use (f45 M _ (fun _ => by rw [hMl]; exact hvF)) rfl ?_
                    simp only [go_sem, Nat.reduceEqDiff, ↓reduceIte, Nat.reduceAdd, Nat.reduceMul, Nat.reduceLeDiff, Int.reduceLT, Int.reduceLE, Int.reduceToNat, hMv, h0, h2, h7, h16]
                    refine SemC.loopK mixed M.length (fun k ρ σ' ds => (ds = [] ∧ ρ 0 = slT l ∧ ρ 22 = slI M ∧ ρ 16 = slR (spansF 0 vs) ∧ ρ 239 = slI M ∧ ρ 240 = int M.length ∧ ρ 241 = int k) ∧ Drop σ' σ) (by kernel_rfl) ⟨by simp only [go_sem, Nat.reduceEqDiff, ↓reduceIte, Nat.reduceAdd, Nat.reduceMul, Nat.reduceLeDiff, Int.reduceLT, Int.reduceLE, Int.reduceToNat, h0, h2, h7, h16], by assumption⟩ ?_
                    rintro k ρ σ' ds hk ⟨⟨rfl, h0, h22, h16, h239, h240, h241⟩, hD⟩
                    rcases get_or_end M k hk with ⟨v, hv', hlt, hd⟩ | hk
                    · obtain ⟨r, hr⟩ : ∃ r, (spansF 0 vs)[k]? = some r := get_of_len (hMl.trans hsl.symm) hv'
                      have hb := hMi k v r hv' hr
                      have c1 : ¬ v < r.lo := by omega
                      have c2 : ¬ r.hi < v := by omega
                      have hlt2 : k < (spansF 0 vs).length := by rw [hsl, ← hMl]; exact hlt
                      simp only [go_sem, Nat.reduceEqDiff, ↓reduceIte, Nat.reduceAdd, Nat.reduceMul, Nat.reduceLeDiff, Int.reduceLT, Int.reduceLE, Int.reduceToNat, h0, h22, h16, h239, h240, h241, hlt, hlt2, hv', ↓rg_get0 hr, ↓rg_get1 hr, c1, c2]
                      exact ⟨by rw [wrap_succ _ (by omega)], hD⟩
                    · subst hk
                      simp only [go_sem, Nat.reduceEqDiff, ↓reduceIte, Nat.reduceAdd, Nat.reduceMul, Nat.reduceLeDiff, Int.reduceLT, Int.reduceLE, Int.reduceToNat, h0, h22, h16, h239, h240, h241, Nat.lt_irrefl]
                      refine callB_use (f24 l (by omega) hc) rfl ?_
                      simp only [go_sem, Nat.reduceEqDiff, ↓reduceIte, Nat.reduceAdd, Nat.reduceMul, Nat.reduceLeDiff, Int.reduceLT, Int.reduceLE, Int.reduceToNat, h22]
                      refine callB_use (f84 M (by rw [hMl]; exact hvF)) rfl ?_
                      simp only [go_sem, Nat.reduceEqDiff, ↓reduceIte, Nat.reduceAdd, Nat.reduceMul, Nat.reduceLeDiff, Int.reduceLT, Int.reduceLE, Int.reduceToNat]
                      refine callB_use (f83 l M (by omega) hc (by rw [hMl]; exact hvF)) rfl ?_
                      simp only [go_sem, Nat.reduceEqDiff, ↓reduceIte, Nat.reduceAdd, Nat.reduceMul, Nat.reduceLeDiff, Int.reduceLT, Int.reduceLE, Int.reduceToNat, hMm]
                      refine callB_use (f22 hG1 hG3) rfl ?_
                      simp only [go_sem, Nat.reduceEqDiff, ↓reduceIte, Nat.reduceAdd, Nat.reduceMul, Nat.reduceLeDiff, Int.reduceLT, Int.reduceLE, Int.reduceToNat]
                      exact retP_drop hD rfl
                · have hq : ((s.length : Int) = vs.length) = True := eq_true (by omega)
                  refine callB_use (f24 l (by omega) hc) rfl ?_
                  simp only [go_sem, Nat.reduceEqDiff, ↓reduceIte, Nat.reduceAdd, Nat.reduceMul, Nat.reduceLeDiff, Int.reduceLT, Int.reduceLE, Int.reduceToNat, h0, h2, h7]
                  refine callB_use (f32 (spansF 0 vs) (by rw [hsl]; exact hvF)) rfl ?_
                  simp only [go_sem, Nat.reduceEqDiff, ↓reduceIte, Nat.reduceAdd, Nat.reduceMul, Nat.reduceLeDiff, Int.reduceLT, Int.reduceLE, Int.reduceToNat, h0, h2, h7]
                  refine callB_use (f85 l (spansF 0 vs) (by omega) hc (by rw [hsl]; exact hvF)) rfl ?_
                  simp only [go_sem, Nat.reduceEqDiff, ↓reduceIte, Nat.reduceAdd, Nat.reduceMul, Nat.reduceLeDiff, Int.reduceLT, Int.reduceLE, Int.reduceToNat, hN, hq, h0, h2, h7, eq_self_iff_true, decide_true]
                  refine SemC.loopK mixed s.length (fun k ρ σ' ds => (ds = [] ∧ ρ 0 = slT l ∧ ρ 2 = slI vs ∧ ρ 7 = .v (.bool (modelB l vs)) ∧ ρ 16 = slR (spansF 0 vs) ∧ ρ 19 = slR s ∧ ρ 149 = slR s ∧ ρ 150 = int s.length ∧ ρ 151 = int k) ∧ Drop σ' σ) (by kernel_rfl) ⟨by simp only [go_sem, Nat.reduceEqDiff, ↓reduceIte, Nat.reduceAdd, Nat.reduceMul, Nat.reduceLeDiff, Int.reduceLT, Int.reduceLE, Int.reduceToNat, h0, h2, h7], by assumption⟩ ?_
                  rintro k ρ σ' ds hk ⟨⟨rfl, h0, h2, h7, h16, h19, h149, h150, h151⟩, hD⟩
                  rcases get_or_end s k hk with ⟨a, ha, hlt, hd⟩ | hk
                  · obtain ⟨v, hv'⟩ : ∃ v, vs[k]? = some v := get_of_len hsl2 ha
                    obtain ⟨b, hb⟩ : ∃ b, (spansF 0 vs)[k]? = some b := get_of_len (hsl2.trans hsl.symm) ha
                    have hi := hin k v a b hv' ha hb
                    have c1 : ¬ a.lo < b.lo := by omega
                    have c2 : ¬ b.hi < a.hi := by omega
                    have hlt2 : k < (spansF 0 vs).length := by rw [hsl, ← hsl2]; exact hlt
                    have hlt3 : k < vs.length := by rw [← hsl2]; exact hlt
                    cases hmb : modelB l vs with
                    | true =>
                      have c3 : ¬ v < a.lo := by have := hi.2.2 hmb; omega
                      have c4 : ¬ a.hi < v := by have := hi.2.2 hmb; omega
                      simp only [go_sem, Nat.reduceEqDiff, ↓reduceIte, Nat.reduceAdd, Nat.reduceMul, Nat.reduceLeDiff, Int.reduceLT, Int.reduceLE, Int.reduceToNat, h0, h2, h7, h16, h19, h149, h150, h151, hlt, hlt2, hlt3, hv', ↓rg_get0 ha, ↓rg_get1 ha, ↓rg_get0 hb, ↓rg_get1 hb, c1, c2, c3, c4, hmb]
                      exact ⟨by rw [wrap_succ _ (by omega)], hD⟩
                    | false =>
                      simp only [go_sem, Nat.reduceEqDiff, ↓reduceIte, Nat.reduceAdd, Nat.reduceMul, Nat.reduceLeDiff, Int.reduceLT, Int.reduceLE, Int.reduceToNat, h0, h2, h7, h16, h19, h149, h150, h151, hlt, hlt2, hlt3, hv', ↓rg_get0 ha, ↓rg_get1 ha, ↓rg_get0 hb, ↓rg_get1 hb, c1, c2, hmb]
                      exact ⟨by rw [wrap_succ _ (by omega)], hD⟩
                  · subst hk
                    simp only [go_sem, Nat.reduceEqDiff, ↓reduceIte, Nat.reduceAdd, Nat.reduceMul, Nat.reduceLeDiff, Int.reduceLT, Int.reduceLE, Int.reduceToNat, h0, h2, h7, h16, h19, h149, h150, h151, Nat.lt_irrefl]
                    rcases hF.search with ⟨M, h30 | ⟨hS, hno⟩ | ⟨hS, hMl, hMv, hMm, hMi⟩⟩
                    · generalize hSv : SearchP l (spansF 0 vs) 200 = S at h30
                      refine callB_use (f24 l (by omega) hc) rfl ?_
                      simp only [go_sem, Nat.reduceEqDiff, ↓reduceIte, Nat.reduceAdd, Nat.reduceMul, Nat.reduceLeDiff, Int.reduceLT, Int.reduceLE, Int.reduceToNat, h0, h2, h7, h16]
                      refine callB_use (f32 (spansF 0 vs) (by rw [hsl]; exact hvF)) rfl ?_
                      simp only [go_sem, Nat.reduceEqDiff, ↓reduceIte, Nat.reduceAdd, Nat.reduceMul, Nat.reduceLeDiff, Int.reduceLT, Int.reduceLE, Int.reduceToNat, h0, h2, h7, h16]
                      refine callB_use (f31 l (spansF 0 vs) 200 (by omega) hc (by rw [hsl]; exact hvF)) rfl ?_
                      simp only [go_sem, Nat.reduceEqDiff, ↓reduceIte, Nat.reduceAdd, Nat.reduceMul, Nat.reduceLeDiff, Int.reduceLT, Int.reduceLE, Int.reduceToNat, hSv, h30, c30, h0, h2, h7, h16, eq_self_iff_true, decide_true]
                      refine callB_use (f22 hG1 hG3) rfl ?_
                      simp only [go_sem, Nat.reduceEqDiff, ↓reduceIte, Nat.reduceAdd, Nat.reduceMul, Nat.reduceLeDiff, Int.reduceLT, Int.reduceLE, Int.reduceToNat]
                      exact retP_drop (by assumption) rfl
                    · refine callB_use (f24 l (by omega) hc) rfl ?_
                      simp only [go_sem, Nat.reduceEqDiff, ↓reduceIte, Nat.reduceAdd, Nat.reduceMul, Nat.reduceLeDiff, Int.reduceLT, Int.reduceLE, Int.reduceToNat, h0, h2, h7, h16]
                      refine callB_use (f32 (spansF 0 vs) (by rw [hsl]; exact hvF)) rfl ?_
                      simp only [go_sem, Nat.reduceEqDiff, ↓reduceIte, Nat.reduceAdd, Nat.reduceMul, Nat.reduceLeDiff, Int.reduceLT, Int.reduceLE, Int.reduceToNat, h0, h2, h7, h16]
                      refine callB_use (f31 l (spansF 0 vs) 200 (by omega) hc (by rw [hsl]; exact hvF)) rfl ?_
                      simp only [go_sem, Nat.reduceEqDiff, ↓reduceIte, Nat.reduceAdd, Nat.reduceMul, Nat.reduceLeDiff, Int.reduceLT, Int.reduceLE, Int.reduceToNat, hS, hno, h0, h2, h7, h16, List.length_nil]
                      refine callB_use (f22 hG1 hG3) rfl ?_
                      simp only [go_sem, Nat.reduceEqDiff, ↓reduceIte, Nat.reduceAdd, Nat.reduceMul, Nat.reduceLeDiff, Int.reduceLT, Int.reduceLE, Int.reduceToNat]
                      exact retP_drop (by assumption) rfl
                    · refine callB_use (f24 l (by omega) hc) rfl ?_
                      simp only [go_sem, Nat.reduceEqDiff, ↓reduceIte, Nat.reduceAdd, Nat.reduceMul, Nat.reduceLeDiff, Int.reduceLT, Int.reduceLE, Int.reduceToNat, h0, h2, h7, h16]
                      refine callB_use (f32 (spansF 0 vs) (by rw [hsl]; exact hvF)) rfl ?_
                      simp only [go_sem, Nat.reduceEqDiff, ↓reduceIte, Nat.reduceAdd, Nat.reduceMul, Nat.reduceLeDiff, Int.reduceLT, Int.reduceLE, Int.reduceToNat, h0, h2, h7, h16]
                      refine callB_use (f31 l (spansF 0 vs) 200 (by omega) hc (by rw [hsl]; exact hvF)) rfl ?_
                      simp only [go_sem, Nat.reduceEqDiff, ↓reduceIte, Nat.reduceAdd, Nat.reduceMul, Nat.reduceLeDiff, Int.reduceLT, Int.reduceLE, Int.reduceToNat, hS, h0, h2, h7, h16]
                      refine callB_use (f45 M _ (fun _ => by rw [hMl]; exact hvF)) rfl ?_
                      simp only [go_sem, Nat.reduceEqDiff, ↓reduceIte, Nat.reduceAdd, Nat.reduceMul, Nat.reduceLeDiff, Int.reduceLT, Int.reduceLE, Int.reduceToNat, hMv, h0, h2, h7, h16]
                      refine SemC.loopK mixed M.length (fun k ρ σ' ds => (ds = [] ∧ ρ 0 = slT l ∧ ρ 22 = slI M ∧ ρ 16 = slR (spansF 0 vs) ∧ ρ 239 = slI M ∧ ρ 240 = int M.length ∧ ρ 241 = int k) ∧ Drop σ' σ) (by kernel_rfl) ⟨by simp only [go_sem, Nat.reduceEqDiff, ↓reduceIte, Nat.reduceAdd, Nat.reduceMul, Nat.reduceLeDiff, Int.reduceLT, Int.reduceLE, Int.reduceToNat, h0, h2, h7, h16], by assumption⟩ ?_
                      rintro k ρ σ' ds hk ⟨⟨rfl, h0, h22, h16, h239, h240, h241⟩, hD⟩
                      rcases get_or_end M k hk with ⟨v, hv', hlt, hd⟩ | hk
                      · obtain ⟨r, hr⟩ : ∃ r, (spansF 0 vs)[k]? = some r := get_of_len (hMl.trans hsl.symm) hv'
                        have hb := hMi k v r hv' hr
                        have c1 : ¬ v < r.lo := by omega
                        have c2 : ¬ r.hi < v := by omega
                        have hlt2 : k < (spansF 0 vs).length := by rw [hsl, ← hMl]; exact hlt
                        simp only [go_sem, Nat.reduceEqDiff, ↓reduceIte, Nat.reduceAdd, Nat.reduceMul, Nat.reduceLeDiff, Int.reduceLT, Int.reduceLE, Int.reduceToNat, h0, h22, h16, h239, h240, h241, hlt, hlt2, hv', ↓rg_get0 hr, ↓rg_get1 hr, c1, c2]
                        exact ⟨by rw [wrap_succ _ (by omega)], hD⟩
                      · subst hk
                        simp only [go_sem, Nat.reduceEqDiff, ↓reduceIte, Nat.reduceAdd, Nat.reduceMul, Nat.reduceLeDiff, Int.reduceLT, Int.reduceLE, Int.reduceToNat, h0, h22, h16, h239, h240, h241, Nat.lt_irrefl]
                        refine callB_use (f24 l (by omega) hc) rfl ?_
                        simp only [go_sem, Nat.reduceEqDiff, ↓reduceIte, Nat.reduceAdd, Nat.reduceMul, Nat.reduceLeDiff, Int.reduceLT, Int.reduceLE, Int.reduceToNat, h22]
                        refine callB_use (f84 M (by rw [hMl]; exact hvF)) rfl ?_
                        simp only [go_sem, Nat.reduceEqDiff, ↓reduceIte, Nat.reduceAdd, Nat.reduceMul, Nat.reduceLeDiff, Int.reduceLT, Int.reduceLE, Int.reduceToNat]
                        refine callB_use (f83 l M (by omega) hc (by rw [hMl]; exact hvF)) rfl ?_
                        simp only [go_sem, Nat.reduceEqDiff, ↓reduceIte, Nat.reduceAdd, Nat.reduceMul, Nat.reduceLeDiff, Int.reduceLT, Int.reduceLE, Int.reduceToNat, hMm]
                        refine callB_use (f22 hG1 hG3) rfl ?_
                        simp only [go_sem, Nat.reduceEqDiff, ↓reduceIte, Nat.reduceAdd, Nat.reduceMul, Nat.reduceLeDiff, Int.reduceLT, Int.reduceLE, Int.reduceToNat]
                        exact retP_drop hD rfl
          · simp only [go_sem, Nat.reduceEqDiff, ↓reduceIte, Nat.reduceAdd, Nat.reduceMul, Nat.reduceLeDiff, Int.reduceLT, Int.reduceLE, Int.reduceToNat, he2]
            cases hfd : (pairP l).2 with
            | true =>
              obtain ⟨hpc, hno⟩ := hF.pair hfd
              simp only [go_sem, Nat.reduceEqDiff, ↓reduceIte, Nat.reduceAdd, Nat.reduceMul, Nat.reduceLeDiff, Int.reduceLT, Int.reduceLE, Int.reduceToNat, hfd, hno, he2]
              refine dcallB_use (f24 l (by omega) hc) rfl ?_
              simp only [go_sem, Nat.reduceEqDiff, ↓reduceIte, Nat.reduceAdd, Nat.reduceMul, Nat.reduceLeDiff, Int.reduceLT, Int.reduceLE, Int.reduceToNat, hfd, hno, he2]
              refine callB_use (f23 l _ (by omega) hc hpf.1 hpf.2 hG1) rfl ?_
              simp only [go_sem, Nat.reduceEqDiff, ↓reduceIte, Nat.reduceAdd, Nat.reduceMul, Nat.reduceLeDiff, Int.reduceLT, Int.reduceLE, Int.reduceToNat, hpc, hno]
              refine SemC.loopK mixed vs.length (fun k ρ σ' ds => (ds = [] ∧ ρ 0 = slT l ∧ ρ 2 = slI vs ∧ ρ 7 = .v (.bool (modelB l vs)) ∧ ρ 102 = slI vs ∧ ρ 103 = int vs.length ∧ ρ 104 = int k) ∧ Drop σ' σ ∧ Grow σ σ' 2 (ρ 16) (((spansF 0 vs).take k).flatMap rgC) k) (by kernel_rfl) ⟨by simp only [go_sem, Nat.reduceEqDiff, ↓reduceIte, Nat.reduceAdd, Nat.reduceMul, Nat.reduceLeDiff, Int.reduceLT, Int.reduceLE, Int.reduceToNat, hno], by repeat (first | exact Drop.refl _ | assumption | refine Drop.upd ?_ (by assumption)), .nil _ _ _⟩ ?_
              rintro k ρ σ' ds hk ⟨⟨rfl, h0, h2, h7, h102, h103, h104⟩, hD, hG⟩
              rcases get_or_end vs k hk with ⟨v, hv', hlt, hd⟩ | hk
              · simp only [go_sem, Nat.reduceEqDiff, ↓reduceIte, Nat.reduceAdd, Nat.reduceMul, Nat.reduceLeDiff, Int.reduceLT, Int.reduceLE, Int.reduceToNat, h0, h2, h7, h102, h103, h104, hlt, hv']
                refine appB_sl (appT_sl el45 tk97 by97 el45 (by decide) rfl (by decide)) hD hG rfl rfl (by omega) (fun a' σ2 hD2 hO hG2 => ?_)
                simp only [go_sem, Nat.reduceEqDiff, ↓reduceIte, Nat.reduceAdd, Nat.reduceMul, Nat.reduceLeDiff, Int.reduceLT, Int.reduceLE, Int.reduceToNat, h0, h2, h7, h102, h103, h104]
                refine ⟨by rw [wrap_succ _ (by omega)], hD2, ?_⟩
                have hg := spansF_get vs 0 k v hv'
                rw [Nat.zero_add] at hg
                rw [take_succ hg, List.flatMap_append]
                simpa [rgC, int, spanAt] using hG2
              · subst hk
                rw [← hsl, List.take_length, hsl] at hG
                simp only [go_sem, Nat.reduceEqDiff, ↓reduceIte, Nat.reduceAdd, Nat.reduceMul, Nat.reduceLeDiff, Int.reduceLT, Int.reduceLE, Int.reduceToNat, h0, h2, h7, h102, h103, h104, Nat.lt_irrefl]
                refine frzB_grow 16 rfl hG hD (fun σ2 hD2 _ => ?_)
                have e16 : AV.sl ((spansF 0 vs).flatMap rgC) vs.length = slR (spansF 0 vs) := by rw [slR, hsl]
                rw [e16]
                simp only [go_sem, Nat.reduceEqDiff, ↓reduceIte, Nat.reduceAdd, Nat.reduceMul, Nat.reduceLeDiff, Int.reduceLT, Int.reduceLE, Int.reduceToNat, h0, h2, h7]
                rcases hF.narrow with ⟨hN, hno⟩ | ⟨s, hN, hsl2, hin⟩
                · refine callB_use (f24 l (by omega) hc) rfl ?_
                  simp only [go_sem, Nat.reduceEqDiff, ↓reduceIte, Nat.reduceAdd, Nat.reduceMul, Nat.reduceLeDiff, Int.reduceLT, Int.reduceLE, Int.reduceToNat, h0, h2, h7]
                  refine callB_use (f32 (spansF 0 vs) (by rw [hsl]; exact hvF)) rfl ?_
                  simp only [go_sem, Nat.reduceEqDiff, ↓reduceIte, Nat.reduceAdd, Nat.reduceMul, Nat.reduceLeDiff, Int.reduceLT, Int.reduceLE, Int.reduceToNat, h0, h2, h7]
                  refine callB_use (f85 l (spansF 0 vs) (by omega) hc (by rw [hsl]; exact hvF)) rfl ?_
                  simp only [go_sem, Nat.reduceEqDiff, ↓reduceIte, Nat.reduceAdd, Nat.reduceMul, Nat.reduceLeDiff, Int.reduceLT, Int.reduceLE, Int.reduceToNat, hN, hno, c28', h0, h2, h7, eq_self_iff_true, decide_true]
                  refine SemC.loopK mixed 0 (fun k ρ σ' ds => (ds = [] ∧ ρ 0 = slT l ∧ ρ 2 = slI vs ∧ ρ 7 = .v (.bool (modelB l vs)) ∧ ρ 16 = slR (spansF 0 vs) ∧ ρ 149 = slR [] ∧ ρ 150 = int 0 ∧ ρ 151 = int k) ∧ Drop σ' σ) (by kernel_rfl) ⟨by simp only [go_sem, Nat.reduceEqDiff, ↓reduceIte, Nat.reduceAdd, Nat.reduceMul, Nat.reduceLeDiff, Int.reduceLT, Int.reduceLE, Int.reduceToNat, hno, h0, h2, h7, List.length_nil], by assumption⟩ ?_
                  rintro k ρ σ' ds hk ⟨⟨rfl, h0, h2, h7, h16, h149, h150, h151⟩, hD⟩
                  have hk0 : k = 0 := by omega
                  subst hk0
                  simp only [go_sem, Nat.reduceEqDiff, ↓reduceIte, Nat.reduceAdd, Nat.reduceMul, Nat.reduceLeDiff, Int.reduceLT, Int.reduceLE, Int.reduceToNat, h0, h2, h7, h16, h149, h150, h151, Int.lt_irrefl, Nat.lt_irrefl]
                  rcases hF.search with ⟨M, h30 | ⟨hS, hno⟩ | ⟨hS, hMl, hMv, hMm, hMi⟩⟩
                  · generalize hSv : SearchP l (spansF 0 vs) 200 = S at h30
                    refine callB_use (f24 l (by omega) hc) rfl ?_
                    simp only [go_sem, Nat.reduceEqDiff, ↓reduceIte, Nat.reduceAdd, Nat.reduceMul, Nat.reduceLeDiff, Int.reduceLT, Int.reduceLE, Int.reduceToNat, h0, h2, h7, h16]
                    refine callB_use (f32 (spansF 0 vs) (by rw [hsl]; exact hvF)) rfl ?_
                    simp only [go_sem, Nat.reduceEqDiff, ↓reduceIte, Nat.reduceAdd, Nat.reduceMul, Nat.reduceLeDiff, Int.reduceLT, Int.reduceLE, Int.reduceToNat, h0, h2, h7, h16]
                    refine callB_use (f31 l (spansF 0 vs) 200 (by omega) hc (by rw [hsl]; exact hvF)) rfl ?_
                    simp only [go_sem, Nat.reduceEqDiff, ↓reduceIte, Nat.reduceAdd, Nat.reduceMul, Nat.reduceLeDiff, Int.reduceLT, Int.reduceLE, Int.reduceToNat, hSv, h30, c30, h0, h2, h7, h16, eq_self_iff_true, decide_true]
                    refine callB_use (f22 hG1 hG3) rfl ?_
                    simp only [go_sem, Nat.reduceEqDiff, ↓reduceIte, Nat.reduceAdd, Nat.reduceMul, Nat.reduceLeDiff, Int.reduceLT, Int.reduceLE, Int.reduceToNat]
                    exact retP_drop (by assumption) rfl
                  · refine callB_use (f24 l (by omega) hc) rfl ?_
                    simp only [go_sem, Nat.reduceEqDiff, ↓reduceIte, Nat.reduceAdd, Nat.reduceMul, Nat.reduceLeDiff, Int.reduceLT, Int.reduceLE, Int.reduceToNat, h0, h2, h7, h16]
                    refine callB_use (f32 (spansF 0 vs) (by rw [hsl]; exact hvF)) rfl ?_
                    simp only [go_sem, Nat.reduceEqDiff, ↓reduceIte, Nat.reduceAdd, Nat.reduceMul, Nat.reduceLeDiff, Int.reduceLT, Int.reduceLE, Int.reduceToNat, h0, h2, h7, h16]
                    refine callB_use (f31 l (spansF 0 vs) 200 (by omega) hc (by rw [hsl]; exact hvF)) rfl ?_
                    simp only [go_sem, Nat.reduceEqDiff, ↓reduceIte, Nat.reduceAdd, Nat.reduceMul, Nat.reduceLeDiff, Int.reduceLT, Int.reduceLE, Int.reduceToNat, hS, hno, h0, h2, h7, h16, List.length_nil]
                    refine callB_use (f22 hG1 hG3) rfl ?_
                    simp only [go_sem, Nat.reduceEqDiff, ↓reduceIte, Nat.reduceAdd, Nat.reduceMul, Nat.reduceLeDiff, Int.reduceLT, Int.reduceLE, Int.reduceToNat]
                    exact retP_drop (by assumption) rfl
                  · refine callB_use (f24 l (by omega) hc) rfl ?_
                    simp only [go_sem, Nat.reduceEqDiff, ↓reduceIte, Nat.reduceAdd, Nat.reduceMul, Nat.reduceLeDiff, Int.reduceLT, Int.reduceLE, Int.reduceToNat, h0, h2, h7, h16]
                    refine callB_use (f32 (spansF 0 vs) (by rw [hsl]; exact hvF)) rfl ?_
                    simp only [go_sem, Nat.reduceEqDiff, ↓reduceIte, Nat.reduceAdd, Nat.reduceMul, Nat.reduceLeDiff, Int.reduceLT, Int.reduceLE, Int.reduceToNat, h0, h2, h7, h16]
                    refine callB_use (f31 l (spansF 0 vs) 200 (by omega) hc (by rw [hsl]; exact hvF)) rfl ?_
                    simp only [go_sem, Nat.reduceEqDiff, ↓reduceIte, Nat.reduceAdd, Nat.reduceMul, Nat.reduceLeDiff, Int.reduceLT, Int.reduceLE, Int.reduceToNat, hS, h0, h2, h7, h16]
                    refine callB_use (f45 M _ (fun _ => by rw [hMl]; exact hvF)) rfl ?_
                    simp only [go_sem, Nat.reduceEqDiff, ↓reduceIte, Nat.reduceAdd, Nat.reduceMul, Nat.reduceLeDiff, Int.reduceLT, Int.reduceLE, Int.reduceToNat, hMv, h0, h2, h7, h16]
                    refine SemC.loopK mixed M.length (fun k ρ σ' ds => (ds = [] ∧ ρ 0 = slT l ∧ ρ 22 = slI M ∧ ρ 16 = slR (spansF 0 vs) ∧ ρ 239 = slI M ∧ ρ 240 = int M.length ∧ ρ 241 = int k) ∧ Drop σ' σ) (by kernel_rfl) ⟨by simp only [go_sem, Nat.reduceEqDiff, ↓reduceIte, Nat.reduceAdd, Nat.reduceMul, Nat.reduceLeDiff, Int.reduceLT, Int.reduceLE, Int.reduceToNat, h0, h2, h7, h16], by assumption⟩ ?_
                    rintro k ρ σ' ds hk ⟨⟨rfl, h0, h22, h16, h239, h240, h241⟩, hD⟩
                    rcases get_or_end M k hk with ⟨v, hv', hlt, hd⟩ | hk
                    · obtain ⟨r, hr⟩ : ∃ r, (spansF 0 vs)[k]? = some r := get_of_len (hMl.trans hsl.symm) hv'
                      have hb := hMi k v r hv' hr
                      have c1 : ¬ v < r.lo := by omega
                      have c2 : ¬ r.hi < v := by omega
                      have hlt2 : k < (spansF 0 vs).length := by rw [hsl, ← hMl]; exact hlt
                      simp only [go_sem, Nat.reduceEqDiff, ↓reduceIte, Nat.reduceAdd, Nat.reduceMul, Nat.reduceLeDiff, Int.reduceLT, Int.reduceLE, Int.reduceToNat, h0, h22, h16, h239, h240, h241, hlt, hlt2, hv', ↓rg_get0 hr, ↓rg_get1 hr, c1, c2]
                      exact ⟨by rw [wrap_succ _ (by omega)], hD⟩
                    · subst hk
                      simp only [go_sem, Nat.reduceEqDiff, ↓reduceIte, Nat.reduceAdd, Nat.reduceMul, Nat.reduceLeDiff, Int.reduceLT, Int.reduceLE, Int.reduceToNat, h0, h22, h16, h239, h240, h241, Nat.lt_irrefl]
                      refine callB_use (f24 l (by omega) hc) rfl ?_
                      simp only [go_sem, Nat.reduceEqDiff, ↓reduceIte, Nat.reduceAdd, Nat.reduceMul, Nat.reduceLeDiff, Int.reduceLT, Int.reduceLE, Int.reduceToNat, h22]
                      refine callB_use (f84 M (by rw [hMl]; exact hvF)) rfl ?_
                      simp only [go_sem, Nat.reduceEqDiff, ↓reduceIte, Nat.reduceAdd, Nat.reduceMul, Nat.reduceLeDiff, Int.reduceLT, Int.reduceLE, Int.reduceToNat]
                      refine callB_use (f83 l M (by omega) hc (by rw [hMl]; exact hvF)) rfl ?_
                      simp only [go_sem, Nat.reduceEqDiff, ↓reduceIte, Nat.reduceAdd, Nat.reduceMul, Nat.reduceLeDiff, Int.reduceLT, Int.reduceLE, Int.reduceToNat, hMm]
                      refine callB_use (f22 hG1 hG3) rfl ?_
                      simp only [go_sem, Nat.reduceEqDiff, ↓reduceIte, Nat.reduceAdd, Nat.reduceMul, Nat.reduceLeDiff, Int.reduceLT, Int.reduceLE, Int.reduceToNat]
                      exact retP_drop hD rfl
                · have hq : ((s.length : Int) = vs.length) = True := eq_true (by omega)
                  refine callB_use (f24 l (by omega) hc) rfl ?_
                  simp only [go_sem, Nat.reduceEqDiff, ↓reduceIte, Nat.reduceAdd, Nat.reduceMul, Nat.reduceLeDiff, Int.reduceLT, Int.reduceLE, Int.reduceToNat, h0, h2, h7]
                  refine callB_use (f32 (spansF 0 vs) (by rw [hsl]; exact hvF)) rfl ?_
                  simp only [go_sem, Nat.reduceEqDiff, ↓reduceIte, Nat.reduceAdd, Nat.reduceMul, Nat.reduceLeDiff, Int.reduceLT, Int.reduceLE, Int.reduceToNat, h0, h2, h7]
                  refine callB_use (f85 l (spansF 0 vs) (by omega) hc (by rw [hsl]; exact hvF)) rfl ?_
                  simp only [go_sem, Nat.reduceEqDiff, ↓reduceIte, Nat.reduceAdd, Nat.reduceMul, Nat.reduceLeDiff, Int.reduceLT, Int.reduceLE, Int.reduceToNat, hN, hq, h0, h2, h7, eq_self_iff_true, decide_true]
                  refine SemC.loopK mixed s.length (fun k ρ σ' ds => (ds = [] ∧ ρ 0 = slT l ∧ ρ 2 = slI vs ∧ ρ 7 = .v (.bool (modelB l vs)) ∧ ρ 16 = slR (spansF 0 vs) ∧ ρ 19 = slR s ∧ ρ 149 = slR s ∧ ρ 150 = int s.length ∧ ρ 151 = int k) ∧ Drop σ' σ) (by kernel_rfl) ⟨by simp only [go_sem, Nat.reduceEqDiff, ↓reduceIte, Nat.reduceAdd, Nat.reduceMul, Nat.reduceLeDiff, Int.reduceLT, Int.reduceLE, Int.reduceToNat, h0, h2, h7], by assumption⟩ ?_
                  rintro k ρ σ' ds hk ⟨⟨rfl, h0, h2, h7, h16, h19, h149, h150, h151⟩, hD⟩
                  rcases get_or_end s k hk with ⟨a, ha, hlt, hd⟩ | hk
                  · obtain ⟨v, hv'⟩ : ∃ v, vs[k]? = some v := get_of_len hsl2 ha
                    obtain ⟨b, hb⟩ : ∃ b, (spansF 0 vs)[k]? = some b := get_of_len (hsl2.trans hsl.symm) ha
                    have hi := hin k v a b hv' ha hb
                    have c1 : ¬ a.lo < b.lo := by omega
                    have c2 : ¬ b.hi < a.hi := by omega
                    have hlt2 : k < (spansF 0 vs).length := by rw [hsl, ← hsl2]; exact hlt
                    have hlt3 : k < vs.length := by rw [← hsl2]; exact hlt
                    cases hmb : modelB l vs with
                    | true =>
                      have c3 : ¬ v < a.lo := by have := hi.2.2 hmb; omega
                      have c4 : ¬ a.hi < v := by have := hi.2.2 hmb; omega
                      simp only [go_sem, Nat.reduceEqDiff, ↓reduceIte, Nat.reduceAdd, Nat.reduceMul, Nat.reduceLeDiff, Int.reduceLT, Int.reduceLE, Int.reduceToNat, h0, h2, h7, h16, h19, h149, h150, h151, hlt, hlt2, hlt3, hv', ↓rg_get0 ha, ↓rg_get1 ha, ↓rg_get0 hb, ↓rg_get1 hb, c1, c2, c3, c4, hmb]
                      exact ⟨by rw [wrap_succ _ (by omega)], hD⟩
                    | false =>
                      simp only [go_sem, Nat.reduceEqDiff, ↓reduceIte, Nat.reduceAdd, Nat.reduceMul, Nat.reduceLeDiff, Int.reduceLT, Int.reduceLE, Int.reduceToNat, h0, h2, h7, h16, h19, h149, h150, h151, hlt, hlt2, hlt3, hv', ↓rg_get0 ha, ↓rg_get1 ha, ↓rg_get0 hb, ↓rg_get1 hb, c1, c2, hmb]
                      exact ⟨by rw [wrap_succ _ (by omega)], hD⟩
                  · subst hk
                    simp only [go_sem, Nat.reduceEqDiff, ↓reduceIte, Nat.reduceAdd, Nat.reduceMul, Nat.reduceLeDiff, Int.reduceLT, Int.reduceLE, Int.reduceToNat, h0, h2, h7, h16, h19, h149, h150, h151, Nat.lt_irrefl]
                    rcases hF.search with ⟨M, h30 | ⟨hS, hno⟩ | ⟨hS, hMl, hMv, hMm, hMi⟩⟩
                    · generalize hSv : SearchP l (spansF 0 vs) 200 = S at h30
                      refine callB_use (f24 l (by omega) hc) rfl ?_
                      simp only [go_sem, Nat.reduceEqDiff, ↓reduceIte, Nat.reduceAdd, Nat.reduceMul, Nat.reduceLeDiff, Int.reduceLT, Int.reduceLE, Int.reduceToNat, h0, h2, h7, h16]
                      refine callB_use (f32 (spansF 0 vs) (by rw [hsl]; exact hvF)) rfl ?_
                      simp only [go_sem, Nat.reduceEqDiff, ↓reduceIte, Nat.reduceAdd, Nat.reduceMul, Nat.reduceLeDiff, Int.reduceLT, Int.reduceLE, Int.reduceToNat, h0, h2, h7, h16]
                      refine callB_use (f31 l (spansF 0 vs) 200 (by omega) hc (by rw [hsl]; exact hvF)) rfl ?_
                      simp only [go_sem, Nat.reduceEqDiff, ↓reduceIte, Nat.reduceAdd, Nat.reduceMul, Nat.reduceLeDiff, Int.reduceLT, Int.reduceLE, Int.reduceToNat, hSv, h30, c30, h0, h2, h7, h16, eq_self_iff_true, decide_true]
                      refine callB_use (f22 hG1 hG3) rfl ?_
                      simp only [go_sem, Nat.reduceEqDiff, ↓reduceIte, Nat.reduceAdd, Nat.reduceMul, Nat.reduceLeDiff, Int.reduceLT, Int.reduceLE, Int.reduceToNat]
                      exact retP_drop (by assumption) rfl
                    · refine callB_use (f24 l (by omega) hc) rfl ?_
                      simp only [go_sem, Nat.reduceEqDiff, ↓reduceIte, Nat.reduceAdd, Nat.reduceMul, Nat.reduceLeDiff, Int.reduceLT, Int.reduceLE, Int.reduceToNat, h0, h2, h7, h16]
                      refine callB_use (f32 (spansF 0 vs) (by rw [hsl]; exact hvF)) rfl ?_
                      simp only [go_sem, Nat.reduceEqDiff, ↓reduceIte, Nat.reduceAdd, Nat.reduceMul, Nat.reduceLeDiff, Int.reduceLT, Int.reduceLE, Int.reduceToNat, h0, h2, h7, h16]
                      refine callB_use (f31 l (spansF 0 vs) 200 (by omega) hc (by rw [hsl]; exact hvF)) rfl ?_
                      simp only [go_sem, Nat.reduceEqDiff, ↓reduceIte, Nat.reduceAdd, Nat.reduceMul, Nat.reduceLeDiff, Int.reduceLT, Int.reduceLE, Int.reduceToNat, hS, hno, h0, h2, h7, h16, List.length_nil]
                      refine callB_use (f22 hG1 hG3) rfl ?_
                      simp only [go_sem, Nat.reduceEqDiff, ↓reduceIte, Nat.reduceAdd, Nat.reduceMul, Nat.reduceLeDiff, Int.reduceLT, Int.reduceLE, Int.reduceToNat]
                      exact retP_drop (by assumption) rfl
                    · refine callB_use (f24 l (by omega) hc) rfl ?_
                      simp only [go_sem, Nat.reduceEqDiff, ↓reduceIte, Nat.reduceAdd, Nat.reduceMul, Nat.reduceLeDiff, Int.reduceLT, Int.reduceLE, Int.reduceToNat, h0, h2, h7, h16]
                      refine callB_use (f32 (spansF 0 vs) (by rw [hsl]; exact hvF)) rfl ?_
                      simp only [go_sem, Nat.reduceEqDiff, ↓reduceIte, Nat.reduceAdd, Nat.reduceMul, Nat.reduceLeDiff, Int.reduceLT, Int.reduceLE, Int.reduceToNat, h0, h2, h7, h16]
                      refine callB_use (f31 l (spansF 0 vs) 200 (by omega) hc (by rw [hsl]; exact hvF)) rfl ?_
                      simp only [go_sem, Nat.reduceEqDiff, ↓reduceIte, Nat.reduceAdd, Nat.reduceMul, Nat.reduceLeDiff, Int.reduceLT, Int.reduceLE, Int.reduceToNat, hS, h0, h2, h7, h16]
                      refine callB_use (f45 M _ (fun _ => by rw [hMl]; exact hvF)) rfl ?_
                      simp only [go_sem, Nat.reduceEqDiff, ↓reduceIte, Nat.reduceAdd, Nat.reduceMul, Nat.reduceLeDiff, Int.reduceLT, Int.reduceLE, Int.reduceToNat, hMv, h0, h2, h7, h16]
                      refine SemC.loopK mixed M.length (fun k ρ σ' ds => (ds = [] ∧ ρ 0 = slT l ∧ ρ 22 = slI M ∧ ρ 16 = slR (spansF 0 vs) ∧ ρ 239 = slI M ∧ ρ 240 = int M.length ∧ ρ 241 = int k) ∧ Drop σ' σ) (by kernel_rfl) ⟨by simp only [go_sem, Nat.reduceEqDiff, ↓reduceIte, Nat.reduceAdd, Nat.reduceMul, Nat.reduceLeDiff, Int.reduceLT, Int.reduceLE, Int.reduceToNat, h0, h2, h7, h16], by assumption⟩ ?_
                      rintro k ρ σ' ds hk ⟨⟨rfl, h0, h22, h16, h239, h240, h241⟩, hD⟩
                      rcases get_or_end M k hk with ⟨v, hv', hlt, hd⟩ | hk
                      · obtain ⟨r, hr⟩ : ∃ r, (spansF 0 vs)[k]? = some r := get_of_len (hMl.trans hsl.symm) hv'
                        have hb := hMi k v r hv' hr
                        have c1 : ¬ v < r.lo := by omega
                        have c2 : ¬ r.hi < v := by omega
                        have hlt2 : k < (spansF 0 vs).length := by rw [hsl, ← hMl]; exact hlt
                        simp only [go_sem, Nat.reduceEqDiff, ↓reduceIte, Nat.reduceAdd, Nat.reduceMul, Nat.reduceLeDiff, Int.reduceLT, Int.reduceLE, Int.reduceToNat, h0, h22, h16, h239, h240, h241, hlt, hlt2, hv', ↓rg_get0 hr, ↓rg_get1 hr, c1, c2]
                        exact ⟨by rw [wrap_succ _ (by omega)], hD⟩
                      · subst hk
                        simp only [go_sem, Nat.reduceEqDiff, ↓reduceIte, Nat.reduceAdd, Nat.reduceMul, Nat.reduceLeDiff, Int.reduceLT, Int.reduceLE, Int.reduceToNat, h0, h22, h16, h239, h240, h241, Nat.lt_irrefl]
                        refine callB_use (f24 l (by omega) hc) rfl ?_
                        simp only [go_sem, Nat.reduceEqDiff, ↓reduceIte, Nat.reduceAdd, Nat.reduceMul, Nat.reduceLeDiff, Int.reduceLT, Int.reduceLE, Int.reduceToNat, h22]
                        refine callB_use (f84 M (by rw [hMl]; exact hvF)) rfl ?_
                        simp only [go_sem, Nat.reduceEqDiff, ↓reduceIte, Nat.reduceAdd, Nat.reduceMul, Nat.reduceLeDiff, Int.reduceLT, Int.reduceLE, Int.reduceToNat]
                        refine callB_use (f83 l M (by omega) hc (by rw [hMl]; exact hvF)) rfl ?_
                        simp only [go_sem, Nat.reduceEqDiff, ↓reduceIte, Nat.reduceAdd, Nat.reduceMul, Nat.reduceLeDiff, Int.reduceLT, Int.reduceLE, Int.reduceToNat, hMm]
                        refine callB_use (f22 hG1 hG3) rfl ?_
                        simp only [go_sem, Nat.reduceEqDiff, ↓reduceIte, Nat.reduceAdd, Nat.reduceMul, Nat.reduceLeDiff, Int.reduceLT, Int.reduceLE, Int.reduceToNat]
                        exact retP_drop hD rfl
            | false =>
              simp only [go_sem, Nat.reduceEqDiff, ↓reduceIte, Nat.reduceAdd, Nat.reduceMul, Nat.reduceLeDiff, Int.reduceLT, Int.reduceLE, Int.reduceToNat, hfd, he2]
              refine SemC.loopK mixed vs.length (fun k ρ σ' ds => (ds = [] ∧ ρ 0 = slT l ∧ ρ 2 = slI vs ∧ ρ 7 = .v (.bool (modelB l vs)) ∧ ρ 102 = slI vs ∧ ρ 103 = int vs.length ∧ ρ 104 = int k) ∧ Drop σ' σ ∧ Grow σ σ' 2 (ρ 16) (((spansF 0 vs).take k).flatMap rgC) k) (by kernel_rfl) ⟨by simp only [go_sem, Nat.reduceEqDiff, ↓reduceIte, Nat.reduceAdd, Nat.reduceMul, Nat.reduceLeDiff, Int.reduceLT, Int.reduceLE, Int.reduceToNat, true_and], by repeat (first | exact Drop.refl _ | assumption | refine Drop.upd ?_ (by assumption)), .nil _ _ _⟩ ?_
              rintro k ρ σ' ds hk ⟨⟨rfl, h0, h2, h7, h102, h103, h104⟩, hD, hG⟩
              rcases get_or_end vs k hk with ⟨v, hv', hlt, hd⟩ | hk
              · simp only [go_sem, Nat.reduceEqDiff, ↓reduceIte, Nat.reduceAdd, Nat.reduceMul, Nat.reduceLeDiff, Int.reduceLT, Int.reduceLE, Int.reduceToNat, h0, h2, h7, h102, h103, h104, hlt, hv']
                refine appB_sl (appT_sl el45 tk97 by97 el45 (by decide) rfl (by decide)) hD hG rfl rfl (by omega) (fun a' σ2 hD2 hO hG2 => ?_)
                simp only [go_sem, Nat.reduceEqDiff, ↓reduceIte, Nat.reduceAdd, Nat.reduceMul, Nat.reduceLeDiff, Int.reduceLT, Int.reduceLE, Int.reduceToNat, h0, h2, h7, h102, h103, h104]
                refine ⟨by rw [wrap_succ _ (by omega)], hD2, ?_⟩
                have hg := spansF_get vs 0 k v hv'
                rw [Nat.zero_add] at hg
                rw [take_succ hg, List.flatMap_append]
                simpa [rgC, int, spanAt] using hG2
              · subst hk
                rw [← hsl, List.take_length, hsl] at hG
                simp only [go_sem, Nat.reduceEqDiff, ↓reduceIte, Nat.reduceAdd, Nat.reduceMul, Nat.reduceLeDiff, Int.reduceLT, Int.reduceLE, Int.reduceToNat, h0, h2, h7, h102, h103, h104, Nat.lt_irrefl]
                refine frzB_grow 16 rfl hG hD (fun σ2 hD2 _ => ?_)
                have e16 : AV.sl ((spansF 0 vs).flatMap rgC) vs.length = slR (spansF 0 vs) := by rw [slR, hsl]
                rw [e16]
                simp only [go_sem, Nat.reduceEqDiff, ↓reduceIte, Nat.reduceAdd, Nat.reduceMul, Nat.reduceLeDiff, Int.reduceLT, Int.reduceLE, Int.reduceToNat, h0, h2, h7]
                rcases hF.narrow with ⟨hN, hno⟩ | ⟨s, hN, hsl2, hin⟩
                · refine callB_use (f24 l (by omega) hc) rfl ?_
                  simp only [go_sem, Nat.reduceEqDiff, ↓reduceIte, Nat.reduceAdd, Nat.reduceMul, Nat.reduceLeDiff, Int.reduceLT, Int.reduceLE, Int.reduceToNat, h0, h2, h7]
                  refine callB_use (f32 (spansF 0 vs) (by rw [hsl]; exact hvF)) rfl ?_
                  simp only [go_sem, Nat.reduceEqDiff, ↓reduceIte, Nat.reduceAdd, Nat.reduceMul, Nat.reduceLeDiff, Int.reduceLT, Int.reduceLE, Int.reduceToNat, h0, h2, h7]
                  refine callB_use (f85 l (spansF 0 vs) (by omega) hc (by rw [hsl]; exact hvF)) rfl ?_
                  simp only [go_sem, Nat.reduceEqDiff, ↓reduceIte, Nat.reduceAdd, Nat.reduceMul, Nat.reduceLeDiff, Int.reduceLT, Int.reduceLE, Int.reduceToNat, hN, hno, c28', h0, h2, h7, eq_self_iff_true, decide_true]
                  refine SemC.loopK mixed 0 (fun k ρ σ' ds => (ds = [] ∧ ρ 0 = slT l ∧ ρ 2 = slI vs ∧ ρ 7 = .v (.bool (modelB l vs)) ∧ ρ 16 = slR (spansF 0 vs) ∧ ρ 149 = slR [] ∧ ρ 150 = int 0 ∧ ρ 151 = int k) ∧ Drop σ' σ) (by kernel_rfl) ⟨by simp only [go_sem, Nat.reduceEqDiff, ↓reduceIte, Nat.reduceAdd, Nat.reduceMul, Nat.reduceLeDiff, Int.reduceLT, Int.reduceLE, Int.reduceToNat, hno, h0, h2, h7, List.length_nil], by assumption⟩ ?_
                  rintro k ρ σ' ds hk ⟨⟨rfl, h0, h2, h7, h16, h149, h150, h151⟩, hD⟩
                  have hk0 : k = 0 := by omega
                  subst hk0
                  simp only [go_sem, Nat.reduceEqDiff, ↓reduceIte, Nat.reduceAdd, Nat.reduceMul, Nat.reduceLeDiff, Int.reduceLT, Int.reduceLE, Int.reduceToNat, h0, h2, h7, h16, h149, h150, h151, Int.lt_irrefl, Nat.lt_irrefl]
                  rcases hF.search with ⟨M, h30 | ⟨hS, hno⟩ | ⟨hS, hMl, hMv, hMm, hMi⟩⟩
                  · generalize hSv : SearchP l (spansF 0 vs) 200 = S at h30
                    refine callB_use (f24 l (by omega) hc) rfl ?_
                    simp only [go_sem, Nat.reduceEqDiff, ↓reduceIte, Nat.reduceAdd, Nat.reduceMul, Nat.reduceLeDiff, Int.reduceLT, Int.reduceLE, Int.reduceToNat, h0, h2, h7, h16]
                    refine callB_use (f32 (spansF 0 vs) (by rw [hsl]; exact hvF)) rfl ?_
                    simp only [go_sem, Nat.reduceEqDiff, ↓reduceIte, Nat.reduceAdd, Nat.reduceMul, Nat.reduceLeDiff, Int.reduceLT, Int.reduceLE, Int.reduceToNat, h0, h2, h7, h16]
                    refine callB_use (f31 l (spansF 0 vs) 200 (by omega) hc (by rw [hsl]; exact hvF)) rfl ?_
                    simp only [go_sem, Nat.reduceEqDiff, ↓reduceIte, Nat.reduceAdd, Nat.reduceMul, Nat.reduceLeDiff, Int.reduceLT, Int.reduceLE, Int.reduceToNat, hSv, h30, c30, h0, h2, h7, h16, eq_self_iff_true, decide_true]
                    refine callB_use (f22 hG1 hG3) rfl ?_
                    simp only [go_sem, Nat.reduceEqDiff, ↓reduceIte, Nat.reduceAdd, Nat.reduceMul, Nat.reduceLeDiff, Int.reduceLT, Int.reduceLE, Int.reduceToNat]
                    exact retP_drop (by assumption) rfl
                  · refine callB_use (f24 l (by omega) hc) rfl ?_
                    simp only [go_sem, Nat.reduceEqDiff, ↓reduceIte, Nat.reduceAdd, Nat.reduceMul, Nat.reduceLeDiff, Int.reduceLT, Int.reduceLE, Int.reduceToNat, h0, h2, h7, h16]
                    refine callB_use (f32 (spansF 0 vs) (by rw [hsl]; exact hvF)) rfl ?_
                    simp only [go_sem, Nat.reduceEqDiff, ↓reduceIte, Nat.reduceAdd, Nat.reduceMul, Nat.reduceLeDiff, Int.reduceLT, Int.reduceLE, Int.reduceToNat, h0, h2, h7, h16]
                    refine callB_use (f31 l (spansF 0 vs) 200 (by omega) hc (by rw [hsl]; exact hvF)) rfl ?_
                    simp only [go_sem, Nat.reduceEqDiff, ↓reduceIte, Nat.reduceAdd, Nat.reduceMul, Nat.reduceLeDiff, Int.reduceLT, Int.reduceLE, Int.reduceToNat, hS, hno, h0, h2, h7, h16, List.length_nil]
                    refine callB_use (f22 hG1 hG3) rfl ?_
                    simp only [go_sem, Nat.reduceEqDiff, ↓reduceIte, Nat.reduceAdd, Nat.reduceMul, Nat.reduceLeDiff, Int.reduceLT, Int.reduceLE, Int.reduceToNat]
                    exact retP_drop (by assumption) rfl
                  · refine callB_use (f24 l (by omega) hc) rfl ?_
                    simp only [go_sem, Nat.reduceEqDiff, ↓reduceIte, Nat.reduceAdd, Nat.reduceMul, Nat.reduceLeDiff, Int.reduceLT, Int.reduceLE, Int.reduceToNat, h0, h2, h7, h16]
                    refine callB_use (f32 (spansF 0 vs) (by rw [hsl]; exact hvF)) rfl ?_
                    simp only [go_sem, Nat.reduceEqDiff, ↓reduceIte, Nat.reduceAdd, Nat.reduceMul, Nat.reduceLeDiff, Int.reduceLT, Int.reduceLE, Int.reduceToNat, h0, h2, h7, h16]
                    refine callB_use (f31 l (spansF 0 vs) 200 (by omega) hc (by rw [hsl]; exact hvF)) rfl ?_
                    simp only [go_sem, Nat.reduceEqDiff, ↓reduceIte, Nat.reduceAdd, Nat.reduceMul, Nat.reduceLeDiff, Int.reduceLT, Int.reduceLE, Int.reduceToNat, hS, h0, h2, h7, h16]
                    refine callB_use (f45 M _ (fun _ => by rw [hMl]; exact hvF)) rfl ?_
                    simp only [go_sem, Nat.reduceEqDiff, ↓reduceIte, Nat.reduceAdd, Nat.reduceMul, Nat.reduceLeDiff, Int.reduceLT, Int.reduceLE, Int.reduceToNat, hMv, h0, h2, h7, h16]
                    refine SemC.loopK mixed M.length (fun k ρ σ' ds => (ds = [] ∧ ρ 0 = slT l ∧ ρ 22 = slI M ∧ ρ 16 = slR (spansF 0 vs) ∧ ρ 239 = slI M ∧ ρ 240 = int M.length ∧ ρ 241 = int k) ∧ Drop σ' σ) (by kernel_rfl) ⟨by simp only [go_sem, Nat.reduceEqDiff, ↓reduceIte, Nat.reduceAdd, Nat.reduceMul, Nat.reduceLeDiff, Int.reduceLT, Int.reduceLE, Int.reduceToNat, h0, h2, h7, h16], by assumption⟩ ?_
                    rintro k ρ σ' ds hk ⟨⟨rfl, h0, h22, h16, h239, h240, h241⟩, hD⟩
                    rcases get_or_end M k hk with ⟨v, hv', hlt, hd⟩ | hk
                    · obtain ⟨r, hr⟩ : ∃ r, (spansF 0 vs)[k]? = some r := get_of_len (hMl.trans hsl.symm) hv'
                      have hb := hMi k v r hv' hr
                      have c1 : ¬ v < r.lo := by omega
                      have c2 : ¬ r.hi < v := by omega
                      have hlt2 : k < (spansF 0 vs).length := by rw [hsl, ← hMl]; exact hlt
                      simp only [go_sem, Nat.reduceEqDiff, ↓reduceIte, Nat.reduceAdd, Nat.reduceMul, Nat.reduceLeDiff, Int.reduceLT, Int.reduceLE, Int.reduceToNat, h0, h22, h16, h239, h240, h241, hlt, hlt2, hv', ↓rg_get0 hr, ↓rg_get1 hr, c1, c2]
                      exact ⟨by rw [wrap_succ _ (by omega)], hD⟩
                    · subst hk
                      simp only [go_sem, Nat.reduceEqDiff, ↓reduceIte, Nat.reduceAdd, Nat.reduceMul, Nat.reduceLeDiff, Int.reduceLT, Int.reduceLE, Int.reduceToNat, h0, h22, h16, h239, h240, h241, Nat.lt_irrefl]
                      refine callB_use (f24 l (by omega) hc) rfl ?_
                      simp only [go_sem, Nat.reduceEqDiff, ↓reduceIte, Nat.reduceAdd, Nat.reduceMul, Nat.reduceLeDiff, Int.reduceLT, Int.reduceLE, Int.reduceToNat, h22]
                      refine callB_use (f84 M (by rw [hMl]; exact hvF)) rfl ?_
                      simp only [go_sem, Nat.reduceEqDiff, ↓reduceIte, Nat.reduceAdd, Nat.reduceMul, Nat.reduceLeDiff, Int.reduceLT, Int.reduceLE, Int.reduceToNat]
                      refine callB_use (f83 l M (by omega) hc (by rw [hMl]; exact hvF)) rfl ?_
                      simp only [go_sem, Nat.reduceEqDiff, ↓reduceIte, Nat.reduceAdd, Nat.reduceMul, Nat.reduceLeDiff, Int.reduceLT, Int.reduceLE, Int.reduceToNat, hMm]
                      refine callB_use (f22 hG1 hG3) rfl ?_
                      simp only [go_sem, Nat.reduceEqDiff, ↓reduceIte, Nat.reduceAdd, Nat.reduceMul, Nat.reduceLeDiff, Int.reduceLT, Int.reduceLE, Int.reduceToNat]
                      exact retP_drop hD rfl
                · have hq : ((s.length : Int) = vs.length) = True := eq_true (by omega)
                  refine callB_use (f24 l (by omega) hc) rfl ?_
                  simp only [go_sem, Nat.reduceEqDiff, ↓reduceIte, Nat.reduceAdd, Nat.reduceMul, Nat.reduceLeDiff, Int.reduceLT, Int.reduceLE, Int.reduceToNat, h0, h2, h7]
                  refine callB_use (f32 (spansF 0 vs) (by rw [hsl]; exact hvF)) rfl ?_
                  simp only [go_sem, Nat.reduceEqDiff, ↓reduceIte, Nat.reduceAdd, Nat.reduceMul, Nat.reduceLeDiff, Int.reduceLT, Int.reduceLE, Int.reduceToNat, h0, h2, h7]
                  refine callB_use (f85 l (spansF 0 vs) (by omega) hc (by rw [hsl]; exact hvF)) rfl ?_
                  simp only [go_sem, Nat.reduceEqDiff, ↓reduceIte, Nat.reduceAdd, Nat.reduceMul, Nat.reduceLeDiff, Int.reduceLT, Int.reduceLE, Int.reduceToNat, hN, hq, h0, h2, h7, eq_self_iff_true, decide_true]
                  refine SemC.loopK mixed s.length (fun k ρ σ' ds => (ds = [] ∧ ρ 0 = slT l ∧ ρ 2 = slI vs ∧ ρ 7 = .v (.bool (modelB l vs)) ∧ ρ 16 = slR (spansF 0 vs) ∧ ρ 19 = slR s ∧ ρ 149 = slR s ∧ ρ 150 = int s.length ∧ ρ 151 = int k) ∧ Drop σ' σ) (by kernel_rfl) ⟨by simp only [go_sem, Nat.reduceEqDiff, ↓reduceIte, Nat.reduceAdd, Nat.reduceMul, Nat.reduceLeDiff, Int.reduceLT, Int.reduceLE, Int.reduceToNat, h0, h2, h7], by assumption⟩ ?_
                  rintro k ρ σ' ds hk ⟨⟨rfl, h0, h2, h7, h16, h19, h149, h150, h151⟩, hD⟩
                  rcases get_or_end s k hk with ⟨a, ha, hlt, hd⟩ | hk
                  · obtain ⟨v, hv'⟩ : ∃ v, vs[k]? = some v := get_of_len hsl2 ha
                    obtain ⟨b, hb⟩ : ∃ b, (spansF 0 vs)[k]? = some b := get_of_len (hsl2.trans hsl.symm) ha
                    have hi := hin k v a b hv' ha hb
                    have c1 : ¬ a.lo < b.lo := by omega
                    have c2 : ¬ b.hi < a.hi := by omega
                    have hlt2 : k < (spansF 0 vs).length := by rw [hsl, ← hsl2]; exact hlt
                    have hlt3 : k < vs.length := by rw [← hsl2]; exact hlt
                    cases hmb : modelB l vs with
                    | true =>
                      have c3 : ¬ v < a.lo := by have := hi.2.2 hmb; omega
                      have c4 : ¬ a.hi < v := by have := hi.2.2 hmb; omega
                      simp only [go_sem, Nat.reduceEqDiff, ↓reduceIte, Nat.reduceAdd, Nat.reduceMul, Nat.reduceLeDiff, Int.reduceLT, Int.reduceLE, Int.reduceToNat, h0, h2, h7, h16, h19, h149, h150, h151, hlt, hlt2, hlt3, hv', ↓rg_get0 ha, ↓rg_get1 ha, ↓rg_get0 hb, ↓rg_get1 hb, c1, c2, c3, c4, hmb]
                      exact ⟨by rw [wrap_succ _ (by omega)], hD⟩
                    | false =>
                      simp only [go_sem, Nat.reduceEqDiff, ↓reduceIte, Nat.reduceAdd, Nat.reduceMul, Nat.reduceLeDiff, Int.reduceLT, Int.reduceLE, Int.reduceToNat, h0, h2, h7, h16, h19, h149, h150, h151, hlt, hlt2, hlt3, hv', ↓rg_get0 ha, ↓rg_get1 ha, ↓rg_get0 hb, ↓rg_get1 hb, c1, c2, hmb]
                      exact ⟨by rw [wrap_succ _ (by omega)], hD⟩
                  · subst hk
                    simp only [go_sem, Nat.reduceEqDiff, ↓reduceIte, Nat.reduceAdd, Nat.reduceMul, Nat.reduceLeDiff, Int.reduceLT, Int.reduceLE, Int.reduceToNat, h0, h2, h7, h16, h19, h149, h150, h151, Nat.lt_irrefl]
                    rcases hF.search with ⟨M, h30 | ⟨hS, hno⟩ | ⟨hS, hMl, hMv, hMm, hMi⟩⟩
                    · generalize hSv : SearchP l (spansF 0 vs) 200 = S at h30
                      refine callB_use (f24 l (by omega) hc) rfl ?_
                      simp only [go_sem, Nat.reduceEqDiff, ↓reduceIte, Nat.reduceAdd, Nat.reduceMul, Nat.reduceLeDiff, Int.reduceLT, Int.reduceLE, Int.reduceToNat, h0, h2, h7, h16]
                      refine callB_use (f32 (spansF 0 vs) (by rw [hsl]; exact hvF)) rfl ?_
                      simp only [go_sem, Nat.reduceEqDiff, ↓reduceIte, Nat.reduceAdd, Nat.reduceMul, Nat.reduceLeDiff, Int.reduceLT, Int.reduceLE, Int.reduceToNat, h0, h2, h7, h16]
                      refine callB_use (f31 l (spansF 0 vs) 200 (by omega) hc (by rw [hsl]; exact hvF)) rfl ?_
                      simp only [go_sem, Nat.reduceEqDiff, ↓reduceIte, Nat.reduceAdd, Nat.reduceMul, Nat.reduceLeDiff, Int.reduceLT, Int.reduceLE, Int.reduceToNat, hSv, h30, c30, h0, h2, h7, h16, eq_self_iff_true, decide_true]
                      refine callB_use (f22 hG1 hG3) rfl ?_
                      simp only [go_sem, Nat.reduceEqDiff, ↓reduceIte, Nat.reduceAdd, Nat.reduceMul, Nat.reduceLeDiff, Int.reduceLT, Int.reduceLE, Int.reduceToNat]
                      exact retP_drop (by assumption) rfl
                    · refine callB_use (f24 l (by omega) hc) rfl ?_
                      simp only [go_sem, Nat.reduceEqDiff, ↓reduceIte, Nat.reduceAdd, Nat.reduceMul, Nat.reduceLeDiff, Int.reduceLT, Int.reduceLE, Int.reduceToNat, h0, h2, h7, h16]
                      refine callB_use (f32 (spansF 0 vs) (by rw [hsl]; exact hvF)) rfl ?_
                      simp only [go_sem, Nat.reduceEqDiff, ↓reduceIte, Nat.reduceAdd, Nat.reduceMul, Nat.reduceLeDiff, Int.reduceLT, Int.reduceLE, Int.reduceToNat, h0, h2, h7, h16]
                      refine callB_use (f31 l (spansF 0 vs) 200 (by omega) hc (by rw [hsl]; exact hvF)) rfl ?_
                      simp only [go_sem, Nat.reduceEqDiff, ↓reduceIte, Nat.reduceAdd, Nat.reduceMul, Nat.reduceLeDiff, Int.reduceLT, Int.reduceLE, Int.reduceToNat, hS, hno, h0, h2, h7, h16, List.length_nil]
                      refine callB_use (f22 hG1 hG3) rfl ?_
                      simp only [go_sem, Nat.reduceEqDiff, ↓reduceIte, Nat.reduceAdd, Nat.reduceMul, Nat.reduceLeDiff, Int.reduceLT, Int.reduceLE, Int.reduceToNat]
                      exact retP_drop (by assumption) rfl
                    · refine callB_use (f24 l (by omega) hc) rfl ?_
                      simp only [go_sem, Nat.reduceEqDiff, ↓reduceIte, Nat.reduceAdd, Nat.reduceMul, Nat.reduceLeDiff, Int.reduceLT, Int.reduceLE, Int.reduceToNat, h0, h2, h7, h16]
                      refine callB_use (f32 (spansF 0 vs) (by rw [hsl]; exact hvF)) rfl ?_
                      simp only [go_sem, Nat.reduceEqDiff, ↓reduceIte, Nat.reduceAdd, Nat.reduceMul, Nat.reduceLeDiff, Int.reduceLT, Int.reduceLE, Int.reduceToNat, h0, h2, h7, h16]
                      refine callB_use (f31 l (spansF 0 vs) 200 (by omega) hc (by rw [hsl]; exact hvF)) rfl ?_
                      simp only [go_sem, Nat.reduceEqDiff, ↓reduceIte, Nat.reduceAdd, Nat.reduceMul, Nat.reduceLeDiff, Int.reduceLT, Int.reduceLE, Int.reduceToNat, hS, h0, h2, h7, h16]
                      refine callB_use (f45 M _ (fun _ => by rw [hMl]; exact hvF)) rfl ?_
                      simp only [go_sem, Nat.reduceEqDiff, ↓reduceIte, Nat.reduceAdd, Nat.reduceMul, Nat.reduceLeDiff, Int.reduceLT, Int.reduceLE, Int.reduceToNat, hMv, h0, h2, h7, h16]
                      refine SemC.loopK mixed M.length (fun k ρ σ' ds => (ds = [] ∧ ρ 0 = slT l ∧ ρ 22 = slI M ∧ ρ 16 = slR (spansF 0 vs) ∧ ρ 239 = slI M ∧ ρ 240 = int M.length ∧ ρ 241 = int k) ∧ Drop σ' σ) (by kernel_rfl) ⟨by simp only [go_sem, Nat.reduceEqDiff, ↓reduceIte, Nat.reduceAdd, Nat.reduceMul, Nat.reduceLeDiff, Int.reduceLT, Int.reduceLE, Int.reduceToNat, h0, h2, h7, h16], by assumption⟩ ?_
                      rintro k ρ σ' ds hk ⟨⟨rfl, h0, h22, h16, h239, h240, h241⟩, hD⟩
                      rcases get_or_end M k hk with ⟨v, hv', hlt, hd⟩ | hk
                      · obtain ⟨r, hr⟩ : ∃ r, (spansF 0 vs)[k]? = some r := get_of_len (hMl.trans hsl.symm) hv'
                        have hb := hMi k v r hv' hr
                        have c1 : ¬ v < r.lo := by omega
                        have c2 : ¬ r.hi < v := by omega
                        have hlt2 : k < (spansF 0 vs).length := by rw [hsl, ← hMl]; exact hlt
                        simp only [go_sem, Nat.reduceEqDiff, ↓reduceIte, Nat.reduceAdd, Nat.reduceMul, Nat.reduceLeDiff, Int.reduceLT, Int.reduceLE, Int.reduceToNat, h0, h22, h16, h239, h240, h241, hlt, hlt2, hv', ↓rg_get0 hr, ↓rg_get1 hr, c1, c2]
                        exact ⟨by rw [wrap_succ _ (by omega)], hD⟩
                      · subst hk
                        simp only [go_sem, Nat.reduceEqDiff, ↓reduceIte, Nat.reduceAdd, Nat.reduceMul, Nat.reduceLeDiff, Int.reduceLT, Int.reduceLE, Int.reduceToNat, h0, h22, h16, h239, h240, h241, Nat.lt_irrefl]
                        refine callB_use (f24 l (by omega) hc) rfl ?_
                        simp only [go_sem, Nat.reduceEqDiff, ↓reduceIte, Nat.reduceAdd, Nat.reduceMul, Nat.reduceLeDiff, Int.reduceLT, Int.reduceLE, Int.reduceToNat, h22]
                        refine callB_use (f84 M (by rw [hMl]; exact hvF)) rfl ?_
                        simp only [go_sem, Nat.reduceEqDiff, ↓reduceIte, Nat.reduceAdd, Nat.reduceMul, Nat.reduceLeDiff, Int.reduceLT, Int.reduceLE, Int.reduceToNat]
                        refine callB_use (f83 l M (by omega) hc (by rw [hMl]; exact hvF)) rfl ?_
                        simp only [go_sem, Nat.reduceEqDiff, ↓reduceIte, Nat.reduceAdd, Nat.reduceMul, Nat.reduceLeDiff, Int.reduceLT, Int.reduceLE, Int.reduceToNat, hMm]
                        refine callB_use (f22 hG1 hG3) rfl ?_
                        simp only [go_sem, Nat.reduceEqDiff, ↓reduceIte, Nat.reduceAdd, Nat.reduceMul, Nat.reduceLeDiff, Int.reduceLT, Int.reduceLE, Int.reduceToNat]
                        exact retP_drop hD rfl
        · simp only [go_sem, Nat.reduceEqDiff, ↓reduceIte, Nat.reduceAdd, Nat.reduceMul, Nat.reduceLeDiff, Int.reduceLT, Int.reduceLE, Int.reduceToNat, h5]
          refine callB_use (f22 hG1 hG3) rfl ?_
          simp only [go_sem, Nat.reduceEqDiff, ↓reduceIte, Nat.reduceAdd, Nat.reduceMul, Nat.reduceLeDiff, Int.reduceLT, Int.reduceLE, Int.reduceToNat]
    · simp only [go_sem, Nat.reduceEqDiff, ↓reduceIte, Nat.reduceAdd, Nat.reduceMul, Nat.reduceLeDiff, Int.reduceLT, Int.reduceLE, Int.reduceToNat, h3]
      refine callB_use (f22 hG1 hG3) rfl ?_
      simp only [go_sem, Nat.reduceEqDiff, ↓reduceIte, Nat.reduceAdd, Nat.reduceMul, Nat.reduceLeDiff, Int.reduceLT, Int.reduceLE, Int.reduceToNat]
end Go.AL
