import Derived.Test.YtjimmpldofoimaaGreatDoorWi
open Nat renaming reduceEqDiff → xQ, reduceAdd → xA, reduceMul → xM, reduceLeDiff → xL
open Int renaming reduceLT → xT, reduceLE → xE, reduceToNat → xN
set_option linter.unusedVariables false
set_option linter.unusedSimpArgs false
namespace Go.AL
open Go.Proofs
variable {Γ : Glob}
attribute [local irreducible] codeW opsW dopsW
theorem f88 (m : Nat) (l : List Tm) (hl : Fits l.length) (ht : ∀ t ∈ l, TmOk t m) (sp : List Rg) (hsp : sp.length = m) (hV : Vs sp) (hm8 : m ≤ 8) (hmp : m ≠ 0) : PCalls Tryz.prog Γ 88 [slT l, slR sp] (narrowA (narrowedP l sp)) := by
  refine pcalls (ok88 Γ) fun σ => ?_
  have hsl : slR sp = .sl (sp.flatMap rgC) m := by rw [slR, hsp]
  generalize hR0 : roundsP l 20 sp = R0
  have hne : sp.flatMap rgC ≠ [] := by
    intro e
    have := rows_len2 sp
    rw [e] at this
    simp at this
    omega
  simp only [go_sem, xQ, ↓reduceIte, xA, xM, xL, xT, xE, xN, Tryz.f88, hsp]
  refine appB_sl (appT_sl el45 tk97 by97 el45 (by decide) rfl (by decide)) (Drop.refl σ) (Grow.e0 σ σ 2) (rg_one sp) (by rw [rows_len2, hsp]) (by omega) (fun a' σ1 hD1 hO1 hG1 => ?_)
  obtain ⟨b, c0, rfl, hb, hsb1⟩ : ∃ b cc, a' = .own b 2 0 m ∧ σ b = none ∧ σ1 b = some (.row (sp.flatMap rgC) 2 cc) := by
    rcases hG1 with ⟨_, h1, _⟩ | ⟨b, cc, h1, h2, h3, h4⟩
    · simp at h1
      exact absurd h1 (by simpa using hne)
    · exact ⟨b, cc, by simpa using h1, h2, by simpa using h3⟩
  simp only [go_sem, xQ, ↓reduceIte, xA, xM, xL, xT, xE, xN]
  refine SemC.loopK mixed 20 (fun k ρ σ' ds => (ds = [] ∧ ρ 0 = slT l ∧ ρ 6 = .own b 2 0 m ∧ ρ 8 = int k) ∧ ∃ ch s, ρ 7 = .v (.bool ch) ∧ σ' b = some (.row (s.flatMap rgC) 2 c0) ∧ s.length = m ∧ Vs s ∧ Drop σ' σ ∧ R0 = (if ch then roundsP l (20 - k) s else some s)) (by kernel_rfl)
    ⟨by simp only [go_sem, xQ, ↓reduceIte, xA, xM, xL, xT, xE, xN], true, sp, rfl, hsb1, hsp, hV, hD1, hR0.symm⟩ ?_
  rintro k ρ σ' ds hk ⟨⟨rfl, h0, h6, h8⟩, ch, s, h7, hsb, hs, hVs, hD, hz⟩
  by_cases hk20 : k < 20
  · have hk20' : (k : Int) < 20 := by omega
    cases ch with
    | true =>
      rw [if_pos rfl, show 20 - k = (20 - (k + 1)) + 1 by omega, roundsP] at hz
      simp only [go_sem, xQ, ↓reduceIte, xA, xM, xL, xT, xE, xN, h0, h6, h7, h8, hk20']
      refine SemC.loopK mixed l.length (fun i ρ σ' ds => (ds = [] ∧ ρ 0 = slT l ∧ ρ 6 = .own b 2 0 m ∧ ρ 8 = int k ∧ ρ 9 = int i) ∧
        ∃ ch s', ρ 7 = .v (.bool ch) ∧ σ' b = some (.row (s'.flatMap rgC) 2 c0) ∧ s'.length = m ∧ Vs s' ∧ Drop σ' σ ∧ roundP l false s = roundP (l.drop i) ch s') (by kernel_rfl) ⟨by simp only [go_sem, xQ, ↓reduceIte, xA, xM, xL, xT, xE, xN, h0, h6, h8], false, s, rfl, hsb, hs, hVs, hD, rfl⟩ ?_
      clear h0 h6 h7 h8 hsb hVs hD
      rintro i ρ σ' ds hi ⟨⟨rfl, h0, h6, h8, h9⟩, ch, s', h7, hsb, hs', hVs, hD, hzp⟩
      rcases get_or_end l i hi with ⟨t, htg, hlt, hd⟩ | hk
      · have hto := ht t (mem_of_get htg)
        have hct := hto.len
        rw [hd, roundP] at hzp
        simp only [go_sem, xQ, ↓reduceIte, xA, xM, xL, xT, xE, xN, h0, h6, h7, h8, h9, hlt]
        refine SemC.loopK mixed m (fun j ρ σ' ds => (ds = [] ∧ ρ 0 = slT l ∧ ρ 6 = .own b 2 0 m ∧ ρ 8 = int k ∧ ρ 9 = int i ∧ ρ 10 = int j) ∧
          ∃ ch' sp', ρ 7 = .v (.bool ch') ∧ σ' b = some (.row (sp'.flatMap rgC) 2 c0) ∧ sp'.length = m ∧ Vs sp' ∧ Drop σ' σ ∧ roundT t 0 t.coeffs ch s' = roundT t j (t.coeffs.drop j) ch' sp') (by kernel_rfl)
          ⟨by simp only [go_sem, xQ, ↓reduceIte, xA, xM, xL, xT, xE, xN, h0, h6, h8, h9], ch, s', h7, hsb, hs', hVs, hD, rfl⟩ ?_
        clear h0 h6 h7 h8 h9 hsb hVs hD
        rintro j ρ σ' ds hj ⟨⟨rfl, h0, h6, h8, h9, h10⟩, ch', sp', h7, hsb, hlsp, hVs, hD, hz2⟩
        by_cases hjm : j < m
        · obtain ⟨c, hc⟩ := get_of_lt hct hjm
          have hdj := drop_of_get hc
          have hmc : (ints t.coeffs)[j]? = some (int c) := by rw [ints, List.getElem?_map, hc]; rfl
          rw [hdj, roundT] at hz2
          by_cases hc0 : c = 0
          · rw [if_pos hc0] at hz2
            simp only [go_sem, xQ, ↓reduceIte, xA, xM, xL, xT, xE, xN, h0, h6, h7, h8, h9, h10, hsb, hct, hjm, hlt, ↓tm_get0 htg, hc, hc0]
            exact ⟨by rw [wrap_succ _ (by omega)], ch', sp', rfl, rfl, hlsp, hVs, hD, hz2⟩
          · rw [if_neg hc0] at hz2
            obtain ⟨x, hx⟩ : ∃ x, sp'[j]? = some x := ⟨sp'[j]'(by omega), List.getElem?_eq_getElem (by omega)⟩
            rw [hx] at hz2
            simp only at hz2
            have hjl : j < sp'.length := by omega
            simp only [go_sem, xQ, ↓reduceIte, xA, xM, xL, xT, xE, xN, h0, h6, h7, h8, h9, h10, hsb, hct, hjm, hlt, ↓tm_get0 htg, ↓tm_part htg, hc, hc0]
            have h178 := f178 (Γ := Γ) t sp' j m c x hto hVs hlsp hc hc0 hx
            simp only [tmA, tmC, slI, slR, hct, hlsp] at h178
            refine callB_bor h178 rfl (.cons (.refl _) (.cons (put_own (c := c0) hsb (by rw [rows_len2, hlsp]) rfl) (.cons (.refl _) .nil))) ?_
            obtain ⟨hy1, hy2, hy3⟩ := hto.narrow hVs hlsp hc hc0 hx
            have hVn := hVs.narrow hto hlsp hc hc0 hx
            generalize narrowP t sp' j c x = y at hz2 hy1 hy2 hy3 hVn
            simp only [go_sem, xQ, ↓reduceIte, xA, xM, xL, xT, xE, xN, h0, h6, h7, h8, h9, h10, hsb, hct, hjm, hlt]
            intro b11 hb11
            have n11 := none_ne hb11 hsb
            have n11' : ¬ b11 = b := fun e => n11 e.symm
            have f11 : σ b11 = none := hD.free hb11
            by_cases hsz : sizeP y < 0
            · rw [if_pos hsz] at hz2
              rw [hz2] at hzp
              rw [hzp] at hz
              have hyz : y.hi < y.lo := hy3.1 hsz
              have hres : narrowedP l sp = none := by rw [narrowedP, hR0, hz]; rfl
              simp only [go_sem, xQ, ↓reduceIte, xA, xM, xL, xT, xE, xN, h0, h6, h7, h8, h9, h10, hsb, hct, hjm, hlt, n11, n11', hyz, hres, narrowA]
              exact ⟨.tup (.cons .nil (.cons (.refl _) .nil)), by repeat (first | assumption | refine Drop.upd ?_ (by assumption))⟩
            · rw [if_neg hsz] at hz2
              have hyz : ¬ y.hi < y.lo := fun e => hsz (hy3.2 e)
              have hput := fun y z => rows_putA hx y z
              have hput' : ∀ y z, List.take (j * 2) (sp'.flatMap rgC) ++ [AV.v (.int .i64 y), AV.v (.int .i64 z)] ++ List.drop (j * 2 + 2) (sp'.flatMap rgC) = (sp'.set j ⟨y, z⟩).flatMap rgC := fun y z => hput y z
              have hj2 : j * 2 + 2 ≤ m * 2 := by omega
              have htk : List.take 2 (List.drop (j * 2) (sp'.flatMap rgC)) = rgC x := by rw [rows_split rgC_len hx]; rfl
              have hls2 : (sp'.set j y).length = m := by rw [List.length_set]; exact hlsp
              cases ch' with
              | true =>
                simp only [go_sem, xQ, ↓reduceIte, xA, xM, xL, xT, xE, xN, h0, h6, h7, h8, h9, h10, hsb, hct, hjm, hlt, n11, n11', hyz, rows_len2, hlsp, hj2, htk, ↓hput, hput']
                exact ⟨by rw [wrap_succ _ (by omega)], true, _, rfl, rfl, hls2, hVn hsz, by repeat (first | assumption | refine Drop.upd ?_ (by assumption)), hz2⟩
              | false =>
                simp only [go_sem, xQ, ↓reduceIte, xA, xM, xL, xT, xE, xN, h0, h6, h7, h8, h9, h10, hsb, hct, hjm, hlt, n11, n11', hyz, rows_len2, hlsp, hj2, htk, ↓hput, hput']
                exact ⟨by rw [wrap_succ _ (by omega)], _, _, rfl, rfl, hls2, hVn hsz, by repeat (first | assumption | refine Drop.upd ?_ (by assumption)), hz2⟩
        · have hjm2 : j = m := by omega
          simp only [go_sem, xQ, ↓reduceIte, xA, xM, xL, xT, xE, xN, h0, h6, h7, h8, h9, h10, hsb, hjm]
          rw [List.drop_of_length_le (by omega), roundT] at hz2
          rw [hz2] at hzp
          exact ⟨hlt, by rw [wrap_succ _ (by omega)], ch', sp', rfl, rfl, hlsp, hVs, hD, by simpa using hzp⟩
      · subst hk
        rw [List.drop_length, roundP] at hzp
        rw [hzp] at hz
        simp only [go_sem, xQ, ↓reduceIte, xA, xM, xL, xT, xE, xN, h0, h6, h7, h8, h9, hsb, Nat.lt_irrefl]
        exact ⟨hk20, by rw [wrap_succ _ (by omega)], ch, s', rfl, rfl, hs', hVs, hD, by simpa using hz⟩
    | false =>
      simp only [go_sem, xQ, ↓reduceIte, xA, xM, xL, xT, xE, xN, h0, h6, h7, h8, hk20']
      have hz3 : R0 = some s := hz
      refine SemC.loopK mixed l.length (fun i ρ σ' ds => (ds = [] ∧ ρ 0 = slT l ∧ ρ 6 = .own b 2 0 m ∧ ρ 12 = int i) ∧ σ' b = some (.row (s.flatMap rgC) 2 c0) ∧ Drop σ' σ ∧ l.any (fun t => decide (greatP t s (-1) < 0)) = (l.drop i).any (fun t => decide (greatP t s (-1) < 0))) (by kernel_rfl)
        ⟨by simp only [go_sem, xQ, ↓reduceIte, xA, xM, xL, xT, xE, xN, h0, h6], hsb, hD, rfl⟩ ?_
      clear h0 h6 h7 h8
      rintro i ρ σ2 ds hi ⟨⟨rfl, h0, h6, h12⟩, hsb4, hD4, hz4⟩
      rcases get_or_end l i hi with ⟨t, htg, hlt, hd⟩ | hk
      · rw [hd, List.any_cons] at hz4
        have hto := ht t (mem_of_get htg)
        have hct := hto.len
        simp only [go_sem, xQ, ↓reduceIte, xA, xM, xL, xT, xE, xN, h0, h6, h12, hlt, ↓tm_part htg]
        have h63 := f63 (Γ := Γ) t s (by omega) (by omega)
        have hgr := hto.ranged hVs hs
        simp only [tmA, tmC, slI, slR, hs] at h63
        refine callB_bor h63 rfl (.cons (.refl _) (.cons (put_own (c := c0) hsb4 (by rw [rows_len2, hs]) rfl) .nil)) ?_
        by_cases hg : greatP t s (-1) < 0
        · have hres : narrowedP l sp = none := by rw [narrowedP, hR0, hz3]; simp only [hz4, hg, decide_true, Bool.true_or, if_true]
          simp only [go_sem, xQ, ↓reduceIte, xA, xM, xL, xT, xE, xN, h0, h6, h12, hgr, hg, hres, narrowA]
          exact ⟨.tup (.cons .nil (.cons (.refl _) .nil)), hD4⟩
        · simp only [go_sem, xQ, ↓reduceIte, xA, xM, xL, xT, xE, xN, h0, h6, h12, hgr, hg]
          exact ⟨hlt, by rw [wrap_succ _ (by omega)], hsb4, hD4, by rw [hz4]; simp [hg]⟩
      · subst hk
        rw [List.drop_length] at hz4
        have hres : narrowedP l sp = some s := by rw [narrowedP, hR0, hz3]; simp only [hz4, List.any_nil, Bool.false_eq_true, if_false]
        simp only [go_sem, xQ, ↓reduceIte, xA, xM, xL, xT, xE, xN, h0, h6, h12, Nat.lt_irrefl, hres, narrowA]
        exact ⟨.tup (.cons (by simp only [slR, Option.getD_some, hs]; exact put_own hsb4 (by rw [rows_len2, hs]) hb) (.cons (.refl _) .nil)), hD4⟩
  · have hk20' : ¬ (k : Int) < 20 := by omega
    have hz3 : R0 = some s := by
      rw [show 20 - k = 0 by omega] at hz
      cases ch <;> exact hz
    simp only [go_sem, xQ, ↓reduceIte, xA, xM, xL, xT, xE, xN, h0, h6, h7, h8, hk20']
    refine SemC.loopK mixed l.length (fun i ρ σ' ds => (ds = [] ∧ ρ 0 = slT l ∧ ρ 6 = .own b 2 0 m ∧ ρ 12 = int i) ∧ σ' b = some (.row (s.flatMap rgC) 2 c0) ∧ Drop σ' σ ∧ l.any (fun t => decide (greatP t s (-1) < 0)) = (l.drop i).any (fun t => decide (greatP t s (-1) < 0))) (by kernel_rfl)
      ⟨by simp only [go_sem, xQ, ↓reduceIte, xA, xM, xL, xT, xE, xN, h0, h6], hsb, hD, rfl⟩ ?_
    clear h0 h6 h7 h8
    rintro i ρ σ2 ds hi ⟨⟨rfl, h0, h6, h12⟩, hsb4, hD4, hz4⟩
    rcases get_or_end l i hi with ⟨t, htg, hlt, hd⟩ | hk
    · rw [hd, List.any_cons] at hz4
      have hto := ht t (mem_of_get htg)
      have hct := hto.len
      simp only [go_sem, xQ, ↓reduceIte, xA, xM, xL, xT, xE, xN, h0, h6, h12, hlt, ↓tm_part htg]
      have h63 := f63 (Γ := Γ) t s (by omega) (by omega)
      have hgr := hto.ranged hVs hs
      simp only [tmA, tmC, slI, slR, hs] at h63
      refine callB_bor h63 rfl (.cons (.refl _) (.cons (put_own (c := c0) hsb4 (by rw [rows_len2, hs]) rfl) .nil)) ?_
      by_cases hg : greatP t s (-1) < 0
      · have hres : narrowedP l sp = none := by rw [narrowedP, hR0, hz3]; simp only [hz4, hg, decide_true, Bool.true_or, if_true]
        simp only [go_sem, xQ, ↓reduceIte, xA, xM, xL, xT, xE, xN, h0, h6, h12, hgr, hg, hres, narrowA]
        exact ⟨.tup (.cons .nil (.cons (.refl _) .nil)), hD4⟩
      · simp only [go_sem, xQ, ↓reduceIte, xA, xM, xL, xT, xE, xN, h0, h6, h12, hgr, hg]
        exact ⟨hlt, by rw [wrap_succ _ (by omega)], hsb4, hD4, by rw [hz4]; simp [hg]⟩
    · subst hk
      rw [List.drop_length] at hz4
      have hres : narrowedP l sp = some s := by rw [narrowedP, hR0, hz3]; simp only [hz4, List.any_nil, Bool.false_eq_true, if_false]
      simp only [go_sem, xQ, ↓reduceIte, xA, xM, xL, xT, xE, xN, h0, h6, h12, Nat.lt_irrefl, hres, narrowA]
      exact ⟨.tup (.cons (by simp only [slR, Option.getD_some, hs]; exact put_own hsb4 (by rw [rows_len2, hs]) hb) (.cons (.refl _) .nil)), hD4⟩
theorem roundP_zero : ∀ (l : List Tm) (ch : Bool), (∀ t ∈ l, t.coeffs = []) → roundP l ch [] = (false, ch, [])
  | [], _, _ => rfl
  | t :: l, ch, h => by
    have h0 := h t List.mem_cons_self
    have hr : roundT t 0 t.coeffs ch [] = (false, ch, []) := by rw [h0]; rfl
    rw [roundP, hr]
    simp only [Bool.false_eq_true, if_false]
    exact roundP_zero l ch fun t ht => h t (List.mem_cons_of_mem _ ht)
theorem f88z (l : List Tm) (hl : Fits l.length) (ht : ∀ t ∈ l, TmOk t 0) : PCalls Tryz.prog Γ 88 [slT l, slR []] (narrowA (narrowedP l [])) := by
  refine pcalls (ok88 Γ) fun σ => ?_
  have hV : Vs [] := fun r hr => by cases hr
  have hco : ∀ t ∈ l, t.coeffs = [] := fun t h => List.eq_nil_of_length_eq_zero (ht t h).len
  have hR0 : roundsP l 20 [] = some [] := by rw [roundsP, roundP_zero l false hco]; rfl
  simp only [go_sem, xQ, ↓reduceIte, xA, xM, xL, xT, xE, xN, Tryz.f88]
  refine appB_pure (x := .sl [] 0) (xs := []) (n := 0) (appT_sl el45 tk97 by97 el45 (by decide) rfl (by decide)) (.inr rfl) ⟨rfl, rfl, rfl⟩ rfl (by decide) ?_
  simp only [go_sem, xQ, ↓reduceIte, xA, xM, xL, xT, xE, xN]
  refine SemC.loopK mixed 20 (fun k ρ σ' ds => (ds = [] ∧ ρ 0 = slT l ∧ ρ 6 = .sl [] 0 ∧ ρ 8 = int k) ∧ Drop σ' σ ∧ ρ 7 = .v (.bool (decide (k = 0))) ∧ k < 2) (by kernel_rfl)
    ⟨by simp only [go_sem, xQ, ↓reduceIte, xA, xM, xL, xT, xE, xN], Drop.refl _, rfl, by decide⟩ ?_
  rintro k ρ σ' ds hk ⟨⟨rfl, h0, h6, h8⟩, hD, h7, hk2⟩
  have hk20' : (k : Int) < 20 := by omega
  cases k with
  | zero =>
    simp only [go_sem, xQ, ↓reduceIte, xA, xM, xL, xT, xE, xN, h0, h6, h7, h8, hk20']
    refine SemC.loopK mixed l.length (fun i ρ σ' ds => (ds = [] ∧ ρ 0 = slT l ∧ ρ 6 = .sl [] 0 ∧ ρ 8 = int 0 ∧ ρ 9 = int i) ∧ Drop σ' σ ∧ ρ 7 = .v (.bool false)) (by kernel_rfl) ⟨by simp only [go_sem, xQ, ↓reduceIte, xA, xM, xL, xT, xE, xN, h0, h6, h8], hD, rfl⟩ ?_
    clear h0 h6 h7 h8 hD
    rintro i ρ σ' ds hi ⟨⟨rfl, h0, h6, h8, h9⟩, hD, h7⟩
    rcases get_or_end l i hi with ⟨t, htg, hlt, hd⟩ | hk
    · simp only [go_sem, xQ, ↓reduceIte, xA, xM, xL, xT, xE, xN, h0, h6, h7, h8, h9, hlt]
      refine SemC.loopK mixed 0 (fun j ρ σ' ds => (ds = [] ∧ ρ 0 = slT l ∧ ρ 6 = .sl [] 0 ∧ ρ 8 = int 0 ∧ ρ 9 = int i ∧ ρ 10 = int 0) ∧ Drop σ' σ ∧ ρ 7 = .v (.bool false)) (by kernel_rfl) ⟨by simp only [go_sem, xQ, ↓reduceIte, xA, xM, xL, xT, xE, xN, h0, h6, h8, h9], hD, h7⟩ ?_
      clear h0 h6 h7 h8 h9 hD
      rintro j ρ σ' ds hj ⟨⟨rfl, h0, h6, h8, h9, h10⟩, hD, h7⟩
      simp only [go_sem, xQ, ↓reduceIte, xA, xM, xL, xT, xE, xN, h0, h6, h7, h8, h9, h10]
      exact ⟨hlt, by rw [wrap_succ _ (by omega)], hD⟩
    · subst hk
      simp only [go_sem, xQ, ↓reduceIte, xA, xM, xL, xT, xE, xN, h0, h6, h7, h8, h9, Nat.lt_irrefl]
      exact ⟨by decide, by rw [wrap_i64 _ (by decide) (by decide)]; rfl, hD, by decide⟩
  | succ k =>
    have : k = 0 := by omega
    subst this
    simp only [go_sem, xQ, ↓reduceIte, xA, xM, xL, xT, xE, xN, h0, h6, h7, h8, hk20']
    refine SemC.loopK mixed l.length (fun i ρ σ' ds => (ds = [] ∧ ρ 0 = slT l ∧ ρ 6 = .sl [] 0 ∧ ρ 12 = int i) ∧ Drop σ' σ ∧ l.any (fun t => decide (greatP t [] (-1) < 0)) = (l.drop i).any (fun t => decide (greatP t [] (-1) < 0))) (by kernel_rfl)
      ⟨by simp only [go_sem, xQ, ↓reduceIte, xA, xM, xL, xT, xE, xN, h0, h6], hD, rfl⟩ ?_
    clear h0 h6 h7 h8
    rintro i ρ σ2 ds hi ⟨⟨rfl, h0, h6, h12⟩, hD4, hz4⟩
    rcases get_or_end l i hi with ⟨t, htg, hlt, hd⟩ | hk
    · rw [hd, List.any_cons] at hz4
      have hto := ht t (mem_of_get htg)
      have hct := hto.len
      simp only [go_sem, xQ, ↓reduceIte, xA, xM, xL, xT, xE, xN, h0, h6, h12, hlt, ↓tm_part htg]
      have h63 := f63 (Γ := Γ) t [] (by decide) (by rw [hct]; rfl)
      have hgr := hto.ranged hV rfl
      simp only [tmA, tmC, slI, slR, List.flatMap_nil, List.length_nil] at h63
      refine callB_use h63 rfl ?_
      by_cases hg : greatP t [] (-1) < 0
      · have hres : narrowedP l [] = none := by rw [narrowedP, hR0]; simp only [hz4, hg, decide_true, Bool.true_or, if_true]
        simp only [go_sem, xQ, ↓reduceIte, xA, xM, xL, xT, xE, xN, h0, h6, h12, hgr, hg, hres, narrowA]
        exact ⟨.tup (.cons .nil (.cons (.refl _) .nil)), hD4⟩
      · simp only [go_sem, xQ, ↓reduceIte, xA, xM, xL, xT, xE, xN, h0, h6, h12, hgr, hg]
        exact ⟨hlt, by rw [wrap_succ _ (by omega)], hD4, by rw [hz4]; simp [hg]⟩
    · subst hk
      rw [List.drop_length] at hz4
      have hres : narrowedP l [] = some [] := by rw [narrowedP, hR0]; simp only [hz4, List.any_nil, Bool.false_eq_true, if_false]
      simp only [go_sem, xQ, ↓reduceIte, xA, xM, xL, xT, xE, xN, h0, h6, h12, Nat.lt_irrefl, hres, narrowA]
      exact retP_drop hD4 rfl
end Go.AL
