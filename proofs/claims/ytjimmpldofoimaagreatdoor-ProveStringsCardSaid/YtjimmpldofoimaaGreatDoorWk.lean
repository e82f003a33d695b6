import Derived.Test.YtjimmpldofoimaaGreatDoorWi
open Nat renaming reduceEqDiff → xQ, reduceAdd → xA, reduceMul → xM, reduceLeDiff → xL
open Int renaming reduceLT → xT, reduceLE → xE, reduceToNat → xN
set_option linter.unusedVariables false
set_option linter.unusedSimpArgs false
namespace Go.AL
open Go.Proofs
variable {Γ : Glob}
attribute [local irreducible] codeW opsW dopsW
theorem f88 (m : Nat) (l : List Tm) (hl : Fits l.length) (ht : ∀ t ∈ l, TmOk t m) (sp : List Rg) (hsp : sp.length = m) (hV : Vs sp) (hm8 : m ≤ 8) (hmp : m ≠ 0) : PCalls Tryz.prog Γ 88 [slT l, slR sp] (narrowA (narrowedP l sp)) := by
  refine pcalls (ok88 Γ) fun σ => ?_
  have hsl : slR sp = .sl (sp.flatMap rgC) m := by rw [slR, hsp]
  generalize hR0 : roundsP l 20 sp = R0
  have hne : sp.flatMap rgC ≠ [] := by
    intro e
    have := rows_len2 sp
    rw [e] at this
    simp at this
    omega
  simp only [go_sem, xQ, ↓reduceIte, xA, xM, xL, xT, xE, xN, Tryz.f88, hsp]
  refine appB_sl (appT_sl el45 tk97 by97 el45 (by decide) rfl (by decide)) (Drop.refl σ) (Grow.e0 σ σ 2) (rg_one sp) (by rw [rows_len2, hsp]) (by omega) (fun a' σ1 hD1 hO1 hG1 => ?_)
  obtain ⟨b, c0, rfl, hb, hsb1⟩ : ∃ b cc, a' = .own b 2 0 m ∧ σ b = none ∧ σ1 b = some (.row (sp.flatMap rgC) 2 cc) := by
    rcases hG1 with ⟨_, h1, _⟩ | ⟨b, cc, h1, h2, h3, h4⟩
    · simp at h1
      exact absurd h1 (by simpa using hne)
    · exact ⟨b, cc, by simpa using h1, h2, by simpa using h3⟩
  simp only [go_sem, xQ, ↓reduceIte, xA, xM, xL, xT, xE, xN]
  refine SemC.loopK mixed 20 (fun k ρ σ' ds => (ds = [] ∧ ρ 0 = slT l ∧ ρ 6 = .own b 2 0 m ∧ ρ 8 = int k) ∧ ∃ ch s, ρ 7 = .v (.bool ch) ∧ σ' b = some (.row (s.flatMap rgC) 2 c0) ∧ s.length = m ∧ Vs s ∧ Drop σ' σ ∧ R0 = (if ch then roundsP l (20 - k) s else some s)) (by kernel_rfl)
    ⟨by simp only [go_sem, xQ, ↓reduceIte, xA, xM, xL, xT, xE, xN], true, sp, rfl, hsb1, hsp, hV, hD1, hR0.symm⟩ ?_
  rintro k ρ σ' ds hk ⟨⟨rfl, h0, h6, h8⟩, ch, s, h7, hsb, hs, hVs, hD, hz⟩
  by_cases hk20 : k < 20
  · have hk20' : (k : Int) < 20 := by omega
    cases ch with
    | true =>
      rw [if_pos rfl, show 20 - k = (20 - (k + 1)) + 1 by omega, roundsP] at hz
      simp only [go_sem, xQ, ↓reduceIte, xA, xM, xL, xT, xE, xN, h0, h6, h7, h8, hk20']
      refine SemC.loopK mixed l.length (fun i ρ σ' ds => (ds = [] ∧ ρ 0 = slT l ∧ ρ 6 = .own b 2 0 m ∧ ρ 8 = int k ∧ ρ 9 = int i) ∧
        ∃ ch s', ρ 7 = .v (.bool ch) ∧ σ' b = some (.row (s'.flatMap rgC) 2 c0) ∧ s'.length = m ∧ Vs s' ∧ Drop σ' σ ∧ roundP l false s = roundP (l.drop i) ch s') (by kernel_rfl) ⟨by simp only [go_sem, xQ, ↓reduceIte, xA, xM, xL, xT, xE, xN, h0, h6, h8], false, s, rfl, hsb, hs, hVs, hD, rfl⟩ ?_
      clear h0 h6 h7 h8 hsb hVs hD
      rintro i ρ σ' ds hi ⟨⟨rfl, h0, h6, h8, h9⟩, ch, s', h7, hsb, hs', hVs, hD, hzp⟩
      rcases get_or_end l i hi with ⟨t, htg, hlt, hd⟩ | hk
      · have hto := ht t (mem_of_get htg)
        have hct := hto.len
        rw [hd, roundP] at hzp
        simp only [go_sem, xQ, ↓reduceIte, xA, xM, xL, xT, xE, xN, h0, h6, h7, h8, h9, hlt]
        refine SemC.loopK mixed m (fun j ρ σ' ds => (ds = [] ∧ ρ 0 = slT l ∧ ρ 6 = .own b 2 0 m ∧ ρ 8 = int k ∧ ρ 9 = int i ∧ ρ 10 = int j) ∧
          ∃ ch' sp', ρ 7 = .v (.bool ch') ∧ σ' b = some (.row (sp'.flatMap rgC) 2 c0) ∧ sp'.length = m ∧ Vs sp' ∧ Drop σ' σ ∧ roundT t 0 t.coeffs ch s' = roundT t j (t.coeffs.drop j) ch' sp') (by kernel_rfl)
          ⟨by simp only [go_sem, xQ, ↓reduceIte, xA, xM, xL, xT, xE, xN, h0, h6, h8, h9], ch, s', h7, hsb, hs', hVs, hD, rfl⟩ ?_
        clear h0 h6 h7 h8 h9 hsb hVs hD
        rintro j ρ σ' ds hj ⟨⟨rfl, h0, h6, h8, h9, h10⟩, ch', sp', h7, hsb, hlsp, hVs, hD, hz2⟩
        by_cases hjm : j < m
        · obtain ⟨c, hc⟩ := get_of_lt hct hjm
          have hdj := drop_of_get hc
          have hmc : (ints t.coeffs)[j]? = some (int c) := by rw [ints, List.getElem?_map, hc]; rfl
          rw [hdj, roundT] at hz2
          by_cases hc0 : c = 0
          · rw [if_pos hc0] at hz2
            simp only [go_sem, xQ, ↓reduceIte, xA, xM, xL, xT, xE, xN, h0, h6, h7, h8, h9, h10, hsb, hct, hjm, hlt, ↓tm_get0 htg, hc, hc0]
            exact ⟨by rw [wrap_succ _ (by omega)], ch', sp', rfl, rfl, hlsp, hVs, hD, hz2⟩
          · rw [if_neg hc0] at hz2
            obtain ⟨x, hx⟩ : ∃ x, sp'[j]? = some x := ⟨sp'[j]'(by omega), List.getElem?_eq_getElem (by omega)⟩
            rw [hx] at hz2
            simp only at hz2
            have hjl : j < sp'.length := by omega
            simp only [go_sem, xQ, ↓reduceIte, xA, xM, xL, xT, xE, xN, h0, h6, h7, h8, h9, h10, hsb, hct, hjm, hlt, ↓tm_get0 htg, ↓tm_part htg, hc, hc0]
            have h178 := f178 (Γ := Γ) t sp' j m c x hto hVs hlsp hc hc0 hx
            simp only [tmA, tmC, slI, slR, hct, hlsp] at h178
            refine callB_bor h178 rfl (.cons (.refl _) (.cons (put_own (c := c0) hsb (by rw [rows_len2, hlsp]) rfl) (.cons (.refl _) .nil))) ?_
            obtain ⟨hy1, hy2, hy3⟩ := hto.narrow hVs hlsp hc hc0 hx
            have hVn := hVs.narrow hto hlsp hc hc0 hx
            generalize narrowP t sp' j c x = y at hz2 hy1 hy2 hy3 hVn
            simp only [go_sem, xQ, ↓reduceIte, xA, xM, xL, xT, xE, xN, h0, h6, h7, h8, h9, h10, hsb, hct, hjm, hlt]
            intro b11 hb11
            have n11 := none_ne hb11 hsb
            have n11' : ¬ b11 = b := fun e => n11 e.symm
            have f11 : σ b11 = none := hD.free hb11
            by_cases hsz : sizeP y < 0
            · rw [if_pos hsz] at hz2
              rw [hz2] at hzp
              rw [hzp] at hz
              have hyz : y.hi < y.lo := hy3.1 hsz
              have hres : narrowedP l sp = none := by rw [narrowedP, hR0, hz]; rfl
              simp only [go_sem, xQ, ↓reduceIte, xA, xM, xL, xT, xE, xN, h0, h6, h7, h8, h9, h10, hsb, hct, hjm, hlt, n11, n11', hyz, hres, narrowA]
              exact ⟨.tup (.cons .nil (.cons (.refl _) .nil)), by repeat (first | assumption | refine Drop.upd ?_ (by assumption))⟩
            · rw [if_neg hsz] at hz2
              have hyz : ¬ y.hi < y.lo := fun e => hsz (hy3.2 e)
              have hput := fun y z => rows_putA hx y z
              have hput' : ∀ y z, List.take (j * 2) (sp'.flatMap rgC) ++ [AV.v (.int .i64 y), AV.v (.int .i64 z)] ++ List.drop (j * 2 + 2) (sp'.flatMap rgC) = (sp'.set j ⟨y, z⟩).flatMap rgC := fun y z => hput y z
              have hj2 : j * 2 + 2 ≤ m * 2 := by omega
              have htk : List.take 2 (List.drop (j * 2) (sp'.flatMap rgC)) = rgC x := by rw [rows_split rgC_len hx]; rfl
              have hls2 : (sp'.set j y).length = m := by rw [List.length_set]; exact hlsp
              cases ch' with
              | true =>
                simp only [go_sem, xQ, ↓reduceIte, xA, xM, xL, xT, xE, xN, h0, h6, h7, h8, h9, h10, hsb, hct, hjm, hlt, n11, n11', hyz, rows_len2, hlsp, hj2, htk, ↓hput, hput']
                exact ⟨by rw [wrap_succ _ (by omega)], true, _, rfl, rfl, hls2, hVn hsz, by repeat (first | assumption | refine Drop.upd ?_ (by assumption)), hz2⟩
              | false =>
                simp only [go_sem, xQ, ↓reduceIte, xA, xM, xL, xT, xE, xN, h0, h6, h7, h8, h9, h10, hsb, hct, hjm, hlt, n11, n11', hyz, rows_len2, hlsp, hj2, htk, ↓hput, hput']
                exact ⟨by rw [wrap_succ _ (by omega)], _, _, rfl, rfl, hls2, hVn hsz, by repeat (first | assumption | refine Drop.upd ?_ (by assumption)), hz2⟩
        · have hjm2 : j = m := by omega
          simp only [go_sem, xQ, ↓reduceIte, xA, xM, xL, xT, xE, xN, h0, h6, h7, h8, h9, h10, hsb, hjm]
          rw [List.drop_of_length_le (by omega), roundT] at hz2
          rw [hz2] at hzp
          exact ⟨hlt, by rw [wrap_succ _ (by omega)], ch', sp', rfl, rfl, hlsp, hVs, hD, by simpa using hzp⟩
      · subst hk
        rw [List.drop_length, roundP] at hzp
        rw [hzp] at hz
        simp only [go_sem, xQ, ↓reduceIte, xA, xM, xL, xT, xE, xN, h0, h6, h7, h8, h9, hsb, Nat.lt_irrefl]
        exact ⟨hk20, by rw [wrap_succ _ (by omega)], ch, s', rfl, rfl, hs', hVs, hD, by simpa using hz⟩
    | false =>
      simp only [go_sem, xQ, ↓reduceIte, xA, xM, xL, xT, xE, xN, h0, h6, h7, h8, hk20']
      have hz3 : R0 = some s := hz
      refine SemC.loopK mixed l.length (fun i ρ σ' ds => (ds = [] ∧ ρ 0 = slT l ∧ ρ 6 = .own b 2 0 m ∧ ρ 12 = int i) ∧ σ' b = some (.row (s.flatMap rgC) 2 c0) ∧ Drop σ' σ ∧ l.any (fun t => decide (greatP t s (-1) < 0)) = (l.drop i).any (fun t => decide (greatP t s (-1) < 0))) (by kernel_rfl)
        ⟨by simp only [go_sem, xQ, ↓reduceIte, xA, xM, xL, xT, xE, xN, h0, h6], hsb, hD, rfl⟩ ?_
      clear h0 h6 h7 h8
      rintro i ρ σ2 ds hi ⟨⟨rfl, h0, h6, h12⟩, hsb4, hD4, hz4⟩
      rcases get_or_end l i hi with ⟨t, htg, hlt, hd⟩ | hk
      · rw [hd, List.any_cons] at hz4
        have hto := ht t (mem_of_get htg)
        have hct := hto.len
        simp only [go_sem, xQ, ↓reduceIte, xA, xM, xL, xT, xE, xN, h0, h6, h12, hlt, ↓tm_part htg]
        have h63 := f63 (Γ := Γ) t s (by omega) (by omega)
        have hgr := hto.ranged hVs hs
        simp only [tmA, tmC, slI, slR, hs] at h63
        refine callB_bor h63 rfl (.cons (.refl _) (.cons (put_own (c := c0) hsb4 (by rw [rows_len2, hs]) rfl) .nil)) ?_
        by_cases hg : greatP t s (-1) < 0
        · have hres : narrowedP l sp = none := by rw [narrowedP, hR0, hz3]; simp only [hz4, hg, decide_true, Bool.true_or, if_true]
          simp only [go_sem, xQ, ↓reduceIte, xA, xM, xL, xT, xE, xN, h0, h6, h12, hgr, hg, hres, narrowA]
          exact ⟨.tup (.cons .nil (.cons (.refl _) .nil)), hD4⟩
        · simp only [go_sem, xQ, ↓reduceIte, xA, xM, xL, xT, xE, xN, h0, h6, h12, hgr, hg]
          exact ⟨hlt, by rw [wrap_succ _ (by omega)], hsb4, hD4, by rw [hz4]; simp [hg]⟩
      · subst hk
        rw [List.drop_length] at hz4
        have hres : narrowedP l sp = some s := by rw [narrowedP, hR0, hz3]; simp only [hz4, List.any_nil, Bool.false_eq_true, if_false]
        simp only [go_sem, xQ, ↓reduceIte, xA, xM, xL, xT, xE, xN, h0, h6, h12, Nat.lt_irrefl, hres, narrowA]
        exact ⟨.tup (.cons (by simp only [slR, Option.getD_some, hs]; exact put_own hsb4 (by rw [rows_len2, hs]) hb) (.cons (.refl _) .nil)), hD4⟩
  · have hk20' : ¬ (k : Int) < 20 := by omega
    have hz3 : R0 = some s := by
      rw [show 20 - k = 0 by omega] at hz
      cases ch <;> exact hz
    simp only [go_sem, xQ, ↓reduceIte, xA, xM, xL, xT, xE, xN, h0, h6, h7, h8, hk20']
    refine SemC.loopK mixed l.length (fun i ρ σ' ds => (ds = [] ∧ ρ 0 = slT l ∧ ρ 6 = .own b 2 0 m ∧ ρ 12 = int i) ∧ σ' b = some (.row (s.flatMap rgC) 2 c0) ∧ Drop σ' σ ∧ l.any (fun t => decide (greatP t s (-1) < 0)) = (l.drop i).any (fun t => decide (greatP t s (-1) < 0))) (by kernel_rfl)
      ⟨by simp only [go_sem, xQ, ↓reduceIte, xA, xM, xL, xT, xE, xN, h0, h6], hsb, hD, rfl⟩ ?_
    clear h0 h6 h7 h8
    rintro i ρ σ2 ds hi ⟨⟨rfl, h0, h6, h12⟩, hsb4, hD4, hz4⟩
    rcases get_or_end l i hi with ⟨t, htg, hlt, hd⟩ | hk
    · rw [hd, List.any_cons] at hz4
      have hto := ht t (mem_of_get htg)
      have hct := hto.len
      simp only [go_sem, xQ, ↓reduceIte, xA, xM, xL, xT, xE, xN, h0, h6, h12, hlt, ↓tm_part htg]
      have h63 := f63 (Γ := Γ) t s (by omega) (by omega)
      have hgr := hto.ranged hVs hs
      simp only [tmA, tmC, slI, slR, hs] at h63
      refine callB_bor h63 rfl (.cons (.refl _) (.cons (put_own (c := c0) hsb4 (by rw [rows_len2, hs]) rfl) .nil)) ?_
      by_cases hg : greatP t s (-1) < 0
      · have hres : narrowedP l sp = none := by rw [narrowedP, hR0, hz3]; simp only [hz4, hg, decide_true, Bool.true_or, if_true]
        simp only [go_sem, xQ, ↓reduceIte, xA, xM, xL, xT, xE, xN, h0, h6, h12, hgr, hg, hres, narrowA]
        exact ⟨.tup (.cons .nil (.cons (.refl _) .nil)), hD4⟩
      · simp only [go_sem, xQ, ↓reduceIte, xA, xM, xL, xT, xE, xN, h0, h6, h12, hgr, hg]
        exact ⟨hlt, by rw [wrap_succ _ (by omega)], hsb4, hD4, by rw [hz4]; simp [hg]⟩
    · subst hk
      rw [List.drop_length] at hz4
      have hres : narrowedP l sp = some s := by rw [narrowedP, hR0, hz3]; simp only [hz4, List.any_nil, Bool.false_eq_true, if_false]
      simp only [go_sem, xQ, ↓reduceIte, xA, xM, xL, xT, xE, xN, h0, h6, h12, Nat.lt_irrefl, hres, narrowA]
      exact ⟨.tup (.cons (by simp only [slR, Option.getD_some, hs]; exact put_own hsb4 (by rw [rows_len2, hs]) hb) (.cons (.refl _) .nil)), hD4⟩
theorem roundP_zero : ∀ (l : List Tm) (ch : Bool), (∀ t ∈ l, t.coeffs = []) → roundP l ch [] = (false, ch, [])
  | [], _, _ => rfl
  | t :: l, ch, h => by
    have h0 := h t List.mem_cons_self
    have hr : roundT t 0 t.coeffs ch [] = (false, ch, []) := by rw [h0]; rfl
    rw [roundP, hr]
    simp only [Bool.false_eq_true, if_false]
    exact roundP_zero l ch fun t ht => h t (List.mem_cons_of_mem _ ht)
theorem f88z (l : List Tm) (hl : Fits l.length) (ht : ∀ t ∈ l, TmOk t 0) : PCalls Tryz.prog Γ 88 [slT l, slR []] (narrowA (narrowedP l [])) := by
  refine pcalls (ok88 Γ) fun σ => ?_
  have hV : Vs [] := fun r hr => by cases hr
  have hco : ∀ t ∈ l, t.coeffs = [] := fun t h => List.eq_nil_of_length_eq_zero (ht t h).len
  have hR0 : roundsP l 20 [] = some [] := by rw [roundsP, roundP_zero l false hco]; rfl
  simp only [go_sem, xQ, ↓reduceIte, xA, xM, xL, xT, xE, xN, Tryz.f88]
  refine appB_pure (x := .sl [] 0) (xs := []) (n := 0) (appT_sl el45 tk97 by97 el45 (by decide) rfl (by decide)) (.inr rfl) ⟨rfl, rfl, rfl⟩ rfl (by decide) ?_
  simp only [go_sem, xQ, ↓reduceIte, xA, xM, xL, xT, xE, xN]
  refine SemC.loopK mixed 20 (fun k ρ σ' ds => (ds = [] ∧ ρ 0 = slT l ∧ ρ 6 = .sl [] 0 ∧ ρ 8 = int k) ∧ Drop σ' σ ∧ ρ 7 = .v (.bool (decide (k = 0))) ∧ k < 2) (by kernel_rfl)
    ⟨by simp only [go_sem, xQ, ↓reduceIte, xA, xM, xL, xT, xE, xN], Drop.refl _, rfl, by decide⟩ ?_
  rintro k ρ σ' ds hk ⟨⟨rfl, h0, h6, h8⟩, hD, h7, hk2⟩
  have hk20' : (k : Int) < 20 := by omega
  cases k with
  | zero =>
    simp only [go_sem, xQ, ↓reduceIte, xA, xM, xL, xT, xE, xN, h0, h6, h7, h8, hk20']
    refine SemC.loopK mixed l.length (fun i ρ σ' ds => (ds = [] ∧ ρ 0 = slT l ∧ ρ 6 = .sl [] 0 ∧ ρ 8 = int 0 ∧ ρ 9 = int i) ∧ Drop σ' σ ∧ ρ 7 = .v (.bool false)) (by kernel_rfl) ⟨by simp only [go_sem, xQ, ↓reduceIte, xA, xM, xL, xT, xE, xN, h0, h6, h8], hD, rfl⟩ ?_
    clear h0 h6 h7 h8 hD
    rintro i ρ σ' ds hi ⟨⟨rfl, h0, h6, h8, h9⟩, hD, h7⟩
    rcases get_or_end l i hi with ⟨t, htg, hlt, hd⟩ | hk
    · simp only [go_sem, xQ, ↓reduceIte, xA, xM, xL, xT, xE, xN, h0, h6, h7, h8, h9, hlt]
      refine SemC.loopK mixed 0 (fun j ρ σ' ds => (ds = [] ∧ ρ 0 = slT l ∧ ρ 6 = .sl [] 0 ∧ ρ 8 = int 0 ∧ ρ 9 = int i ∧ ρ 10 = int 0) ∧ Drop σ' σ ∧ ρ 7 = .v (.bool false)) (by kernel_rfl) ⟨by simp only [go_sem, xQ, ↓reduceIte, xA, xM, xL, xT, xE, xN, h0, h6, h8, h9], hD, h7⟩ ?_
      clear h0 h6 h7 h8 h9 hD
      rintro j ρ σ' ds hj ⟨⟨rfl, h0, h6, h8, h9, h10⟩, hD, h7⟩
      simp only [go_sem, xQ, ↓reduceIte, xA, xM, xL, xT, xE, xN, h0, h6, h7, h8, h9, h10]
      exact ⟨hlt, by rw [wrap_succ _ (by omega)], hD⟩
    · subst hk
      simp only [go_sem, xQ, ↓reduceIte, xA, xM, xL, xT, xE, xN, h0, h6, h7, h8, h9, Nat.lt_irrefl]
      exact ⟨by decide, by rw [wrap_i64 _ (by decide) (by decide)]; rfl, hD, by decide⟩
  | succ k =>
    have : k = 0 := by omega
    subst this
    simp only [go_sem, xQ, ↓reduceIte, xA, xM, xL, xT, xE, xN, h0, h6, h7, h8, hk20']
    refine SemC.loopK mixed l.length (fun i ρ σ' ds => (ds = [] ∧ ρ 0 = slT l ∧ ρ 6 = .sl [] 0 ∧ ρ 12 = int i) ∧ Drop σ' σ ∧ l.any (fun t => decide (greatP t [] (-1) < 0)) = (l.drop i).any (fun t => decide (greatP t [] (-1) < 0))) (by kernel_rfl)
      ⟨by simp only [go_sem, xQ, ↓reduceIte, xA, xM, xL, xT, xE, xN, h0, h6], hD, rfl⟩ ?_
    clear h0 h6 h7 h8
    rintro i ρ σ2 ds hi ⟨⟨rfl, h0, h6, h12⟩, hD4, hz4⟩
    rcases get_or_end l i hi with ⟨t, htg, hlt, hd⟩ | hk
    · rw [hd, List.any_cons] at hz4
      have hto := ht t (mem_of_get htg)
      have hct := hto.len
      simp only [go_sem, xQ, ↓reduceIte, xA, xM, xL, xT, xE, xN, h0, h6, h12, hlt, ↓tm_part htg]
      have h63 := f63 (Γ := Γ) t [] (by decide) (by rw [hct]; rfl)
      have hgr := hto.ranged hV rfl
      simp only [tmA, tmC, slI, slR, List.flatMap_nil, List.length_nil] at h63
      refine callB_use h63 rfl ?_
      by_cases hg : greatP t [] (-1) < 0
      · have hres : narrowedP l [] = none := by rw [narrowedP, hR0]; simp only [hz4, hg, decide_true, Bool.true_or, if_true]
        simp only [go_sem, xQ, ↓reduceIte, xA, xM, xL, xT, xE, xN, h0, h6, h12, hgr, hg, hres, narrowA]
        exact ⟨.tup (.cons .nil (.cons (.refl _) .nil)), hD4⟩
      · simp only [go_sem, xQ, ↓reduceIte, xA, xM, xL, xT, xE, xN, h0, h6, h12, hgr, hg]
        exact ⟨hlt, by rw [wrap_succ _ (by omega)], hD4, by rw [hz4]; simp [hg]⟩
    · subst hk
      rw [List.drop_length] at hz4
      have hres : narrowedP l [] = some [] := by rw [narrowedP, hR0]; simp only [hz4, List.any_nil, Bool.false_eq_true, if_false]
      simp only [go_sem, xQ, ↓reduceIte, xA, xM, xL, xT, xE, xN, h0, h6, h12, Nat.lt_irrefl, hres, narrowA]
      exact retP_drop hD4 rfl
end Go.AL

/- The searches: what narrowing keeps; the widest span; where all spans are points. -/
set_option linter.unusedVariables false
set_option linter.unusedSimpArgs false
namespace Go.AL
open Go.Proofs
theorem roundT_Vs {t : Tm} {m : Nat} (h : TmOk t m) : ∀ (cs : List Int) (k : Nat) (ch : Bool) (sp : List Rg), t.coeffs.drop k = cs → sp.length = m → Vs sp → (roundT t k cs ch sp).1 = false → Vs (roundT t k cs ch sp).2.2
  | [], k, ch, sp, _, _, hV, _ => hV
  | c :: cs, k, ch, sp, hd, hs, hV, he => by
    have hk : t.coeffs[k]? = some c := by
      have := congrArg (·[0]?) hd
      simpa using this
    have hd' : t.coeffs.drop (k + 1) = cs := by
      have := congrArg (List.drop 1) hd
      simpa [List.drop_drop, Nat.add_comm] using this
    rw [roundT] at he ⊢
    by_cases h0 : c = 0
    · rw [if_pos h0] at he ⊢
      exact roundT_Vs h cs (k + 1) ch sp hd' hs hV he
    · rw [if_neg h0] at he ⊢
      have hlt : k < sp.length := by rw [hs, ← h.len]; exact lt_of_getElem? hk
      obtain ⟨x, hx⟩ : ∃ x, sp[k]? = some x := ⟨sp[k], List.getElem?_eq_getElem hlt⟩
      rw [hx] at he ⊢
      simp only at he ⊢
      by_cases hz : sizeP (narrowP t sp k c x) < 0
      · rw [if_pos hz] at he
        cases he
      · rw [if_neg hz] at he ⊢
        exact roundT_Vs h cs (k + 1) _ _ hd' (by rw [List.length_set]; exact hs) (hV.narrow h hs hk h0 hx hz) he
theorem roundP_Vs {m : Nat} : ∀ (l : List Tm) (ch : Bool) (sp : List Rg), (∀ t ∈ l, TmOk t m) → sp.length = m → Vs sp → (roundP l ch sp).1 = false → Vs (roundP l ch sp).2.2
  | [], _, _, _, _, hV, _ => hV
  | t :: l, ch, sp, h, hs, hV, he => by
    rw [roundP] at he ⊢
    have ht := h t List.mem_cons_self
    by_cases hr : (roundT t 0 t.coeffs ch sp).1 = true
    · rw [if_pos hr] at he
      rw [hr] at he
      cases he
    · rw [if_neg hr] at he ⊢
      have hr' : (roundT t 0 t.coeffs ch sp).1 = false := by simpa using hr
      exact roundP_Vs l _ _ (fun t' h' => h t' (List.mem_cons_of_mem _ h')) (by rw [roundT_len]; exact hs) (roundT_Vs ht _ 0 ch sp rfl hs hV hr') he
theorem roundsP_Vs {m : Nat} {l : List Tm} (h : ∀ t ∈ l, TmOk t m) : ∀ (n : Nat) (sp s : List Rg), sp.length = m → Vs sp → roundsP l n sp = some s → s.length = m ∧ Vs s
  | 0, sp, s, hs, hV, he => by cases he; exact ⟨hs, hV⟩
  | n + 1, sp, s, hs, hV, he => by
    rw [roundsP] at he
    by_cases hr : (roundP l false sp).1 = true
    · rw [if_pos hr] at he; cases he
    · rw [if_neg hr] at he
      have hr' : (roundP l false sp).1 = false := by simpa using hr
      have h1 := roundP_Vs l false sp h hs hV hr'
      have h2 : (roundP l false sp).2.2.length = m := by rw [roundP_len]; exact hs
      split at he
      · exact roundsP_Vs h n _ s h2 h1 he
      · cases he; exact ⟨h2, h1⟩
theorem narrowedP_some {m : Nat} {l : List Tm} (h : ∀ t ∈ l, TmOk t m) {sp s : List Rg} (hs : sp.length = m) (hV : Vs sp) (he : narrowedP l sp = some s) : s.length = m ∧ Vs s ∧ (l.any fun t => decide (greatP t s (-1) < 0)) = false := by
  unfold narrowedP at he
  cases hr : roundsP l 20 sp with
  | none => rw [hr] at he; cases he
  | some s' =>
    rw [hr] at he
    simp only at he
    split at he
    · cases he
    · rename_i hn
      cases he
      have := roundsP_Vs h 20 sp s hs hV hr
      exact ⟨this.1, this.2, by simpa using hn⟩
/-- The widest span as the reference looks for it. -/
def widestR (s : List Rg) : Nat → List Rg → Nat → Nat
  | _, [], w => w
  | k, r :: rs, w => widestR s (k + 1) rs (match s[w]? with
      | none => w
      | some x => if sizeP x < sizeP r then k else w)
def WRel (s : List Rg) (w : Int) (w' : Nat) : Prop := ∃ x, s[w']? = some x ∧ ((w = -1 ∧ sizeP x = 0) ∨ (w = w' ∧ 0 < sizeP x))
theorem widest_rel {s : List Rg} : ∀ (rs : List Rg) (k : Nat) (w : Int) (w' : Nat), s.drop k = rs → (∀ r ∈ rs, 0 ≤ sizeP r) → WRel s w w' → WRel s (widestP s k rs w) (widestR s k rs w')
  | [], _, _, _, _, _, h => h
  | r :: rs, k, w, w', hd, hz, ⟨x, hx, h⟩ => by
    have hk : s[k]? = some r := by
      have := congrArg (·[0]?) hd
      simpa using this
    have hd' : s.drop (k + 1) = rs := by
      have := congrArg (List.drop 1) hd
      simpa [List.drop_drop, Nat.add_comm] using this
    have hr := hz r List.mem_cons_self
    rw [widestP, widestR, hx]
    simp only
    refine widest_rel rs (k + 1) _ _ hd' (fun r h => hz r (List.mem_cons_of_mem _ h)) ?_
    rcases h with ⟨hw, h0⟩ | ⟨hw, h0⟩
    · by_cases hp : 0 < sizeP r
      · rw [if_pos hp, if_pos (show w < 0 by omega), if_pos (by omega)]
        exact ⟨r, hk, .inr ⟨rfl, hp⟩⟩
      · rw [if_neg hp, if_neg (by omega)]
        exact ⟨x, hx, .inl ⟨hw, h0⟩⟩
    · have hwn : ¬ w < 0 := by omega
      by_cases hp : 0 < sizeP r
      · rw [if_pos hp, if_neg hwn, hw, Int.toNat_natCast, hx]
        simp only
        by_cases hc : sizeP x < sizeP r
        · rw [if_pos hc, if_pos hc]
          exact ⟨r, hk, .inr ⟨rfl, hp⟩⟩
        · rw [if_neg hc, if_neg hc]
          exact ⟨x, hx, .inr ⟨rfl, h0⟩⟩
      · rw [if_neg hp, if_neg (by omega)]
        exact ⟨x, hx, .inr ⟨hw, h0⟩⟩
theorem Vs.size {s : List Rg} (h : Vs s) {r : Rg} (hr : r ∈ s) : sizeP r = r.hi - r.lo ∧ 0 ≤ sizeP r := by
  have := h r hr
  unfold sizeP
  rw [wrap_i64 _ (by omega) (by omega)]
  omega
/-- Either there is no span of a size, or both find the same one. -/
theorem widest_both {s : List Rg} (hV : Vs s) (hne : s ≠ []) : WRel s (widestP s 0 s (-1)) (widestR s 0 s 0) := by
  obtain ⟨x, rs, rfl⟩ : ∃ x rs, s = x :: rs := by
    cases s with
    | nil => exact absurd rfl hne
    | cons x rs => exact ⟨x, rs, rfl⟩
  have hsz : ∀ r ∈ (x :: rs), 0 ≤ sizeP r := fun r hr => (hV.size hr).2
  rw [widestP, widestR]
  simp only [List.getElem?_cons_zero, Int.lt_irrefl, if_false]
  refine widest_rel rs 1 _ _ rfl (fun r hr => hsz r (List.mem_cons_of_mem _ hr)) ?_
  have h0 := hsz x List.mem_cons_self
  by_cases hp : 0 < sizeP x
  · rw [if_pos hp, if_pos (by decide)]
    exact ⟨x, rfl, .inr ⟨rfl, hp⟩⟩
  · rw [if_neg hp]
    exact ⟨x, rfl, .inl ⟨rfl, by omega⟩⟩
theorem widestP_neg {s : List Rg} : ∀ (rs : List Rg) (k : Nat) (w : Int), widestP s k rs w < 0 → w < 0 ∧ ∀ r ∈ rs, ¬ 0 < sizeP r
  | [], _, _, h => ⟨h, fun r hr => by cases hr⟩
  | r :: rs, k, w, h => by
    rw [widestP] at h
    obtain ⟨h1, h2⟩ := widestP_neg rs (k + 1) _ h
    by_cases hp : 0 < sizeP r
    · rw [if_pos hp] at h1
      by_cases hw : w < 0
      · rw [if_pos hw] at h1; omega
      · rw [if_neg hw] at h1
        split at h1
        · exact absurd h1 hw
        · split at h1
          · omega
          · exact absurd h1 hw
    · rw [if_neg hp] at h1
      refine ⟨h1, fun y hy => ?_⟩
      rcases List.mem_cons.1 hy with rfl | hy
      · exact hp
      · exact h2 y hy
theorem value_great {s : List Rg} (hV : Vs s) (hp : ∀ r ∈ s, r.lo = r.hi) : ∀ (cs : List Int) (k : Nat) (n : Int), Cs cs → cs.length + k = s.length → valueF cs ((s.drop k).map (·.lo)) n = greatF s (-1) k cs n
  | [], k, n, _, _ => by simp [valueF, greatF]
  | c :: cs, k, n, hc, hl => by
    obtain ⟨r, hr, hd⟩ := drop_get (l := s) (k := k) (by simp only [List.length_cons] at hl; omega)
    have hv := hV r (mem_of_get hr)
    have hcc := hc c List.mem_cons_self
    have heq := hp r (mem_of_get hr)
    have hb := mul_bound (h := r.lo) hcc (by omega)
    have hk : ¬ ((k : Int) = -1) := by omega
    rw [great_cons hr hcc hv, if_neg hk, hd, List.map_cons, valueF, value_great hV hp cs (k + 1) _ (fun x hx => hc x (List.mem_cons_of_mem _ hx)) (by simp only [List.length_cons] at hl; omega)]
    congr 2
    rw [wrap_i64 (c * r.lo) (by omega) (by omega)]
    unfold prodP
    rw [heq]
    split <;> rfl
theorem model_of_points {m : Nat} {l : List Tm} (h : ∀ t ∈ l, TmOk t m) {s : List Rg} (hs : s.length = m) (hV : Vs s) (hp : ∀ r ∈ s, r.lo = r.hi) (ha : (l.any fun t => decide (greatP t s (-1) < 0)) = false) : modelB l (s.map (·.lo)) = true := by
  have he : (l.any fun t => decide (valueR t (s.map (·.lo)) < 0)) = l.any fun t => decide (greatP t s (-1) < 0) := by
    clear ha
    induction l with
    | nil => rfl
    | cons t l ih =>
      have ht := h t List.mem_cons_self
      have := value_great hV hp t.coeffs 0 t.const ht.cs (by rw [ht.len, hs]; rfl)
      rw [List.any_cons, List.any_cons, ih fun t' h' => h t' (List.mem_cons_of_mem _ h')]
      unfold valueR greatP
      rw [List.drop_zero] at this
      rw [this]
  rw [modelB, he, ha]
  rfl
theorem seekP_vals (l : List Tm) : ∀ (f : Nat) (left : Int) (sp : List Rg), (seekP l f left sp).is = false → (seekP l f left sp).vals = []
  | 0, _, _ => fun _ => rfl
  | f + 1, left, sp => by
    rw [seekP]
    split
    · exact fun _ => rfl
    · split
      · exact fun _ => rfl
      · split
        · exact fun h => by cases h
        · split
          · exact fun _ => rfl
          · rename_i s _ _ _ r _
            have i1 := seekP_vals l f (left - 1) (s.set (widestP s 0 s (-1)).toNat ⟨r.lo, floorP (IntKind.i64.wrap (r.lo + r.hi)) 2⟩)
            generalize seekP l f (left - 1) (s.set (widestP s 0 s (-1)).toNat ⟨r.lo, floorP (IntKind.i64.wrap (r.lo + r.hi)) 2⟩) = A at i1 ⊢
            have i2 := seekP_vals l f A.left (s.set (widestP s 0 s (-1)).toNat ⟨IntKind.i64.wrap (floorP (IntKind.i64.wrap (r.lo + r.hi)) 2 + 1), r.hi⟩)
            generalize seekP l f A.left (s.set (widestP s 0 s (-1)).toNat ⟨IntKind.i64.wrap (floorP (IntKind.i64.wrap (r.lo + r.hi)) 2 + 1), r.hi⟩) = B at i2 ⊢
            split
            · exact i1
            · split
              · split
                · exact i2
                · split
                  · exact fun _ => rfl
                  · exact i2
              · exact i1
end Go.AL

set_option linter.unusedVariables false
set_option linter.unusedSimpArgs false
namespace Go.AL
open Go.Proofs
variable {Γ : Glob}
attribute [local irreducible] codeW opsW dopsW
def fdC (v : List Int) (is : Bool) (left err : Int) : List AV := [slI v, .v (.bool is), int left, int err]
def fdA (v : List Int) (is : Bool) (left err : Int) : AV := .agg (fdC v is left err)
def fdOf (s : Sk) : AV := fdA s.vals s.is s.left s.err
attribute [go_sem] fdC fdA
def zf4 : List AV := [AV.v (Value.slice none 0 0), AV.v (Value.bool false), AV.v (Value.int IntKind.i64 0), AV.v (Value.int IntKind.i64 0)]
theorem Grow.updNe {σ0 σ : Sig} {s n b : Nat} {a : AV} {cs : List AV} (h : Grow σ0 σ s a cs n) (hne : ∀ s1 o m, a ≠ .own b s1 o m) (x : Option Blk) : Grow σ0 (AL.upd σ b x) s a cs n := by
  rcases h with h | ⟨b0, c, h0, h1, h2, h3⟩
  · exact .inl h
  · have : b0 ≠ b := fun e => hne s 0 n (by rw [h0, e])
    exact .inr ⟨b0, c, h0, h1, by simp [AL.upd, this, h2], h3⟩
theorem Grow.toNo {σ0 σ : Sig} {s n : Nat} {a : AV} {cs : List AV} (h : Grow σ0 σ s a cs n) : Fz σ noB a (.sl cs n) := by
  have h' : Grow noB σ s a cs n := by
    rcases h with h | ⟨b, c, h1, _, h3⟩
    · exact .inl h
    · exact .inr ⟨b, c, h1, rfl, h3⟩
  exact (h'.retP (fun _ => .inl rfl)).1
theorem floor_half {a : Int} (h1 : -9000000000 ≤ a) (h2 : a ≤ 9000000000) : 2 * floorP a 2 ≤ a ∧ a < 2 * floorP a 2 + 2 := by
  have e := Int.mul_tdiv_add_tmod a 2
  have l1 := Int.tmod_lt_of_pos a (b := 2) (by decide)
  have l2 := Int.lt_tmod_of_pos a (b := 2) (by decide)
  have h := tdiv_bound (r := a) (c := 2) (by decide)
  unfold floorP
  rw [wrap_i64 (a.tdiv 2) (by omega) (by omega), wrap_i64 (a.tdiv 2 - 1) (by omega) (by omega)]
  split <;> omega
theorem f130x (v : List Int) (is : Bool) (left err : Int) (l : List Tm) (sp : List Rg) (h : is = true ∨ err ≠ 0) : PCalls Tryz.prog Γ 130 [fdA v is left err, slT l, slR sp] (fdA v is left err) := by
  refine pcalls (ok130 Γ) fun σ => ?_
  simp only [go_sem, xQ, ↓reduceIte, xA, xM, xL, xT, xE, xN, Tryz.f130]
  intro b3 hb3
  simp only [go_sem, xQ, ↓reduceIte, xA, xM, xL, xT, xE, xN]
  intro b6 hb6
  have n6 : ¬ b6 = b3 := fun e => by rw [e] at hb6; simp [upd] at hb6
  have n6' : ¬ b3 = b6 := fun e => n6 e.symm
  have hb6' : σ b6 = none := by rwa [upd_ne _ _ _ _ n6] at hb6
  cases is with
  | true =>
    simp only [go_sem, xQ, ↓reduceIte, xA, xM, xL, xT, xE, xN, n6, n6']
    exact retP_drop (by repeat (first | exact Drop.refl _ | assumption | refine Drop.upd ?_ (by assumption))) rfl
  | false =>
    have he : ¬ err = 0 := by
      rcases h with h | h
      · cases h
      · exact h
    simp only [go_sem, xQ, ↓reduceIte, xA, xM, xL, xT, xE, xN, n6, n6', he]
    exact retP_drop (by repeat (first | exact Drop.refl _ | assumption | refine Drop.upd ?_ (by assumption))) rfl
theorem f130 (m : Nat) (hm8 : m ≤ 8) (l : List Tm) (hl : Fits l.length) (ht : ∀ t ∈ l, TmOk t m) : ∀ (fuel : Nat) (left : Int) (sp : List Rg), 0 ≤ left → left ≤ 1000000 → left < fuel → sp.length = m → Vs sp → PCalls Tryz.prog Γ 130 [fdA [] false left 0, slT l, slR sp] (fdOf (seekP l fuel left sp)) := by
  intro fuel
  induction fuel with
  | zero => intro left sp h0 _ h1; omega
  | succ f ih =>
    intro left sp h0 h1 hf hs hV
    refine pcalls (ok130 Γ) fun σ => ?_
    simp only [go_sem, xQ, ↓reduceIte, xA, xM, xL, xT, xE, xN, Tryz.f130]
    intro b3 hb3
    simp only [go_sem, xQ, ↓reduceIte, xA, xM, xL, xT, xE, xN]
    intro b6 hb6
    have n6 : ¬ b6 = b3 := fun e => by rw [e] at hb6; simp [upd] at hb6
    have n6' : ¬ b3 = b6 := fun e => n6 e.symm
    have hb6' : σ b6 = none := by rwa [upd_ne _ _ _ _ n6] at hb6
    by_cases hz : left = 0
    · have hres : seekP l (f + 1) left sp = ⟨[], false, 30, left⟩ := by rw [seekP, if_pos hz]
      subst hz
      simp only [go_sem, xQ, ↓reduceIte, xA, xM, xL, xT, xE, xN, n6, n6', hres, fdOf]
      exact retP_drop (by repeat (first | exact Drop.refl _ | assumption | refine Drop.upd ?_ (by assumption))) rfl
    · have hw1 : IntKind.i64.wrap (left - 1) = left - 1 := wrap_i64 _ (by omega) (by omega)
      simp only [go_sem, xQ, ↓reduceIte, xA, xM, xL, xT, xE, xN, n6, n6', hz]
      have h88 : PCalls Tryz.prog Γ 88 [slT l, slR sp] (narrowA (narrowedP l sp)) := by
        by_cases hm0 : m = 0
        · subst hm0
          obtain rfl : sp = [] := List.eq_nil_of_length_eq_zero hs
          exact f88z l hl ht
        · exact f88 m l hl ht sp hs hV hm8 hm0
      refine callB_use h88 rfl ?_
      cases hn : narrowedP l sp with
      | none =>
        have hres : seekP l (f + 1) left sp = ⟨[], false, 0, left - 1⟩ := by rw [seekP, if_neg hz, hn]
        simp only [go_sem, xQ, ↓reduceIte, xA, xM, xL, xT, xE, xN, n6, n6', narrowA, Option.isSome_none, Option.getD_none, hres, hw1, fdOf]
        exact retP_drop (by repeat (first | exact Drop.refl _ | assumption | refine Drop.upd ?_ (by assumption))) rfl
      | some s =>
        obtain ⟨hs2, hV2, hany⟩ := narrowedP_some ht hs hV hn
        simp only [go_sem, xQ, ↓reduceIte, xA, xM, xL, xT, xE, xN, n6, n6', narrowA, Option.isSome_some, Option.getD_some, hw1]
        refine SemC.loopK mixed s.length (fun k ρ σ' ds => (ds = [] ∧ ρ 1 = slT l ∧ ρ 3 = .v (.pointer (some ⟨b3, 0, none⟩)) ∧ ρ 6 = .v (.pointer (some ⟨b6, 0, none⟩)) ∧ ρ 7 = slR s ∧ ρ 10 = int k) ∧
          ∃ w : Nat, ρ 9 = int w ∧ (w < s.length ∨ s = []) ∧ σ' b3 = some (.row (fdC [] false (left - 1) 0) 4 1) ∧ σ' b6 = some (.row zf4 4 1) ∧ Drop σ' σ ∧ widestR s 0 s 0 = widestR s k (s.drop k) w) (by kernel_rfl)
          ⟨by simp only [go_sem, xQ, ↓reduceIte, xA, xM, xL, xT, xE, xN], 0, by simp only [go_sem, xQ, ↓reduceIte, xA, xM, xL, xT, xE, xN], (by cases s with
            | nil => exact .inr rfl
            | cons x s => exact .inl (by simp)), by simp only [go_sem, xQ, ↓reduceIte, xA, xM, xL, xT, xE, xN, n6, n6']; try rfl, by simp only [go_sem, xQ, ↓reduceIte, xA, xM, xL, xT, xE, xN, n6, n6']; try rfl, by repeat (first | exact Drop.refl _ | assumption | refine Drop.upd ?_ (by assumption)), rfl⟩ ?_
        rintro k ρ σ' ds hk ⟨⟨rfl, h1', h3, h6, h7, h10⟩, w, h9, hw, hs3, hs6, hD, hwz⟩
        rcases get_or_end s k hk with ⟨r, hr, hlt, hd⟩ | hk
        · have hwl : w < s.length := by
            rcases hw with h | h
            · exact h
            · rw [h] at hlt; simp at hlt
          obtain ⟨x, hx⟩ : ∃ x, s[w]? = some x := ⟨s[w], List.getElem?_eq_getElem hwl⟩
          rw [hd, widestR, hx] at hwz
          simp only at hwz
          by_cases hc : sizeP x < sizeP r
          · rw [if_pos hc] at hwz
            have hc' := hc
            unfold sizeP at hc'
            simp only [go_sem, xQ, ↓reduceIte, xA, xM, xL, xT, xE, xN, h1', h3, h6, h7, h9, h10, hlt, hwl, ↓rg_get0 hr, ↓rg_get1 hr, ↓rg_get0 hx, ↓rg_get1 hx, hc']
            exact ⟨by rw [wrap_succ _ (by omega)], k, rfl, .inl hlt, hs3, hs6, hD, hwz⟩
          · rw [if_neg hc] at hwz
            have hc' := hc
            unfold sizeP at hc'
            simp only [go_sem, xQ, ↓reduceIte, xA, xM, xL, xT, xE, xN, h1', h3, h6, h7, h9, h10, hlt, hwl, ↓rg_get0 hr, ↓rg_get1 hr, ↓rg_get0 hx, ↓rg_get1 hx, hc']
            exact ⟨by rw [wrap_succ _ (by omega)], w, rfl, .inl hwl, hs3, hs6, hD, hwz⟩
        · subst hk
          rw [List.drop_length, widestR] at hwz
          simp only [go_sem, xQ, ↓reduceIte, xA, xM, xL, xT, xE, xN, h1', h3, h6, h7, h9, h10, Nat.lt_irrefl]
          by_cases hse : s = []
          · have hpt : ∀ r ∈ s, r.lo = r.hi := fun r hr => by rw [hse] at hr; cases hr
            have hres : seekP l (f + 1) left sp = ⟨s.map (·.lo), true, 0, left - 1⟩ := by rw [seekP, if_neg hz, hn, hse]; rfl
            have hsl0 : (s.length : Int) = 0 := by rw [hse]; rfl
            simp only [go_sem, xQ, ↓reduceIte, xA, xM, xL, xT, xE, xN, h1', h3, h6, h7, h9, h10, hsl0]
            refine SemC.loopK mixed s.length (fun k ρ σ' ds => (ds = [] ∧ ρ 1 = slT l ∧ ρ 3 = .v (.pointer (some ⟨b3, 0, none⟩)) ∧ ρ 6 = .v (.pointer (some ⟨b6, 0, none⟩)) ∧ ρ 7 = slR s ∧ ρ 12 = int k) ∧
              Grow σ σ' 1 (ρ 11) (ints ((s.map (·.lo)).take k)) k ∧ σ' b3 = some (.row (fdC [] false (left - 1) 0) 4 1) ∧ σ' b6 = some (.row zf4 4 1) ∧ Drop σ' σ) (by kernel_rfl)
              ⟨by simp only [go_sem, xQ, ↓reduceIte, xA, xM, xL, xT, xE, xN, h1', h3, h6, h7], Grow.nil _ _ _, hs3, hs6, hD⟩ ?_
            clear h1' h3 h6 h7 h9 h10 hs3 hs6 hD
            rintro k ρ σ' ds hk ⟨⟨rfl, h1', h3, h6, h7, h12⟩, hG, hs3, hs6, hD⟩
            rcases get_or_end s k hk with ⟨r, hr, hlt, hd⟩ | hk
            · simp only [go_sem, xQ, ↓reduceIte, xA, xM, xL, xT, xE, xN, h1', h3, h6, h7, h12, hlt, ↓rg_get0 hr]
              refine appB_sl (appT_sl el46 tk3 by3 el46 (by decide) rfl (by decide)) hD hG rfl rfl (by omega) (fun a' σ2 hD2 hO hG2 => ?_)
              have e3 : σ2 b3 = some (.row (fdC [] false (left - 1) 0) 4 1) := by rw [hO b3 (hG.ne hs3 (by decide)) (by rw [hs3]; simp)]; exact hs3
              have e6 : σ2 b6 = some (.row zf4 4 1) := by rw [hO b6 (hG.ne hs6 (by decide)) (by rw [hs6]; simp)]; exact hs6
              simp only [go_sem, xQ, ↓reduceIte, xA, xM, xL, xT, xE, xN, h1', h3, h6, h7, h12]
              refine ⟨by rw [wrap_succ _ (by omega)], ?_, e3, e6, hD2⟩
              have hr' : (s.map (·.lo))[k]? = some r.lo := by rw [List.getElem?_map, hr]; rfl
              rw [take_succ hr']
              simpa [ints, int] using hG2
            · subst hk
              have hlm : (s.map (·.lo)).length = s.length := by simp
              rw [← hlm, List.take_length, hlm] at hG
              simp only [go_sem, xQ, ↓reduceIte, xA, xM, xL, xT, xE, xN, h1', h3, h6, h7, h12, Nat.lt_irrefl]
              have h89 := f89 (Γ := Γ) l (s.map (·.lo)) hl (by rw [hlm]; omega) (fun t h => by rw [hlm, hs2, (ht t h).len])
              rw [model_of_points ht hs2 hV2 hpt hany] at h89
              simp only [slI, hlm] at h89
              refine callB_bor h89 rfl (.cons (.refl _) (.cons hG.toNo .nil)) ?_
              have hc2 := hG.cells
              have ho2 := hG.one
              have ne3 := hG.ne hs3 (by decide)
              have ne6 := hG.ne hs6 (by decide)
              simp only [go_sem, xQ, ↓reduceIte, xA, xM, xL, xT, xE, xN, h1', h3, h6, h7, h12, hs3, hs6, hc2, ho2, hres, fdOf, n6, n6', zf4]
              refine ⟨.agg (.cons (Grow.retP (s := 1) (Grow.updNe (Grow.updNe (Grow.updNe ?_ ne3 _) ne3 _) ne6 _) ?_).1 (.cons (.refl _) (.cons (.refl _) (.cons (.refl _) .nil)))), ?_⟩
              · rw [hlm]; exact hG
              · repeat (first | assumption | refine Drop.upd ?_ (by assumption))
              · repeat (first | assumption | refine Drop.upd ?_ (by assumption))
          · have hsl0 : ¬ (s.length : Int) = 0 := by
              intro e
              exact hse (List.eq_nil_of_length_eq_zero (by omega))
            have hwl : w < s.length := by
              rcases hw with h | h
              · exact h
              · exact absurd h hse
            obtain ⟨x, hx, hrel⟩ := widest_both hV2 hse
            rw [hwz] at hx hrel
            have hvx := hV2 x (mem_of_get hx)
            have hsx := (hV2.size (mem_of_get hx)).1
            rcases hrel with ⟨hwp, h0x⟩ | ⟨hwp, h0x⟩
            · have hpx : x.hi = x.lo := by omega
              have hpt : ∀ r ∈ s, r.lo = r.hi := fun r hr => by
                have h1 := (widestP_neg s 0 (-1) (by rw [hwp]; decide)).2 r hr
                have h2 := hV2.size hr
                omega
              have hres : seekP l (f + 1) left sp = ⟨s.map (·.lo), true, 0, left - 1⟩ := by rw [seekP, if_neg hz, hn]; simp [hwp]
              simp only [go_sem, xQ, ↓reduceIte, xA, xM, xL, xT, xE, xN, h1', h3, h6, h7, h9, h10, hsl0, hwl, ↓rg_get0 hx, ↓rg_get1 hx, hpx]
              refine SemC.loopK mixed s.length (fun k ρ σ' ds => (ds = [] ∧ ρ 1 = slT l ∧ ρ 3 = .v (.pointer (some ⟨b3, 0, none⟩)) ∧ ρ 6 = .v (.pointer (some ⟨b6, 0, none⟩)) ∧ ρ 7 = slR s ∧ ρ 12 = int k) ∧
                Grow σ σ' 1 (ρ 11) (ints ((s.map (·.lo)).take k)) k ∧ σ' b3 = some (.row (fdC [] false (left - 1) 0) 4 1) ∧ σ' b6 = some (.row zf4 4 1) ∧ Drop σ' σ) (by kernel_rfl)
                ⟨by simp only [go_sem, xQ, ↓reduceIte, xA, xM, xL, xT, xE, xN, h1', h3, h6, h7], Grow.nil _ _ _, hs3, hs6, hD⟩ ?_
              clear h1' h3 h6 h7 h9 h10 hs3 hs6 hD
              rintro k ρ σ' ds hk ⟨⟨rfl, h1', h3, h6, h7, h12⟩, hG, hs3, hs6, hD⟩
              rcases get_or_end s k hk with ⟨r, hr, hlt, hd⟩ | hk
              · simp only [go_sem, xQ, ↓reduceIte, xA, xM, xL, xT, xE, xN, h1', h3, h6, h7, h12, hlt, ↓rg_get0 hr]
                refine appB_sl (appT_sl el46 tk3 by3 el46 (by decide) rfl (by decide)) hD hG rfl rfl (by omega) (fun a' σ2 hD2 hO hG2 => ?_)
                have e3 : σ2 b3 = some (.row (fdC [] false (left - 1) 0) 4 1) := by rw [hO b3 (hG.ne hs3 (by decide)) (by rw [hs3]; simp)]; exact hs3
                have e6 : σ2 b6 = some (.row zf4 4 1) := by rw [hO b6 (hG.ne hs6 (by decide)) (by rw [hs6]; simp)]; exact hs6
                simp only [go_sem, xQ, ↓reduceIte, xA, xM, xL, xT, xE, xN, h1', h3, h6, h7, h12]
                refine ⟨by rw [wrap_succ _ (by omega)], ?_, e3, e6, hD2⟩
                have hr' : (s.map (·.lo))[k]? = some r.lo := by rw [List.getElem?_map, hr]; rfl
                rw [take_succ hr']
                simpa [ints, int] using hG2
              · subst hk
                have hlm : (s.map (·.lo)).length = s.length := by simp
                rw [← hlm, List.take_length, hlm] at hG
                simp only [go_sem, xQ, ↓reduceIte, xA, xM, xL, xT, xE, xN, h1', h3, h6, h7, h12, Nat.lt_irrefl]
                have h89 := f89 (Γ := Γ) l (s.map (·.lo)) hl (by rw [hlm]; omega) (fun t h => by rw [hlm, hs2, (ht t h).len])
                rw [model_of_points ht hs2 hV2 hpt hany] at h89
                simp only [slI, hlm] at h89
                refine callB_bor h89 rfl (.cons (.refl _) (.cons hG.toNo .nil)) ?_
                have hc2 := hG.cells
                have ho2 := hG.one
                have ne3 := hG.ne hs3 (by decide)
                have ne6 := hG.ne hs6 (by decide)
                simp only [go_sem, xQ, ↓reduceIte, xA, xM, xL, xT, xE, xN, h1', h3, h6, h7, h12, hs3, hs6, hc2, ho2, hres, fdOf, n6, n6', zf4]
                refine ⟨.agg (.cons (Grow.retP (s := 1) (Grow.updNe (Grow.updNe (Grow.updNe ?_ ne3 _) ne3 _) ne6 _) ?_).1 (.cons (.refl _) (.cons (.refl _) (.cons (.refl _) .nil)))), ?_⟩
                · rw [hlm]; exact hG
                · repeat (first | assumption | refine Drop.upd ?_ (by assumption))
                · repeat (first | assumption | refine Drop.upd ?_ (by assumption))
            · have hpx : ¬ x.hi = x.lo := by omega
              have hwn : ¬ widestP s 0 s (-1) < 0 := by omega
              simp only [go_sem, xQ, ↓reduceIte, xA, xM, xL, xT, xE, xN, h1', h3, h6, h7, h9, h10, hsl0, hwl, ↓rg_get0 hx, ↓rg_get1 hx, hpx]
              refine callB_use (f216 _ 2 (by decide)) rfl ?_
              generalize hmid : floorP (IntKind.i64.wrap (x.lo + x.hi)) 2 = mid
              have hmid' := hmid
              rw [wrap_i64 (x.lo + x.hi) (by omega) (by omega)] at hmid'
              obtain ⟨hm1, hm2⟩ := floor_half (a := x.lo + x.hi) (by omega) (by omega)
              rw [hmid'] at hm1 hm2
              have hw2 : IntKind.i64.wrap (mid + 1) = mid + 1 := wrap_i64 _ (by omega) (by omega)
              simp only [go_sem, xQ, ↓reduceIte, xA, xM, xL, xT, xE, xN, h1', h3, h6, h7, h9, h10]
              refine appB_sl (appT_sl el45 tk97 by97 el45 (by decide) rfl (by decide)) (Drop.refl σ') (Grow.e0 σ' _ 2) (rg_one s) (by rw [rows_len2]) (by omega) (fun a1 σ1 hD1 hO1 hG1 => ?_)
              have hne0 : ¬ [] ++ s.flatMap rgC = [] := by
                intro e
                have := congrArg List.length e
                simp only [List.nil_append, rows_len2, List.length_nil] at this
                omega
              rcases hG1 with ⟨_, hG1, _⟩ | ⟨b1, c1, rfl, hn1, hr1, hl1⟩
              · exact absurd hG1 hne0
              refine appB_sl (appT_sl el45 tk97 by97 el45 (by decide) rfl (by decide)) (Drop.refl σ1) (Grow.e0 σ1 _ 2) (rg_one s) (by rw [rows_len2]) (by omega) (fun a2 σ2 hD2 hO2 hG2 => ?_)
              rcases hG2 with ⟨_, hG2, _⟩ | ⟨b2, c2, rfl, hn2, hr2, hl2⟩
              · exact absurd hG2 hne0
              have keep1 : ∀ b, σ' b ≠ none → σ1 b = σ' b := fun b h => hO1 b (fun _ _ _ e => by cases e) h
              have keep2 : ∀ b, σ1 b ≠ none → σ2 b = σ1 b := fun b h => hO2 b (fun _ _ _ e => by cases e) h
              have q3 : σ1 b3 = some (.row (fdC [] false (left - 1) 0) 4 1) := by rw [keep1 b3 (by rw [hs3]; simp)]; exact hs3
              have q6 : σ1 b6 = some (.row zf4 4 1) := by rw [keep1 b6 (by rw [hs6]; simp)]; exact hs6
              have p3 : σ2 b3 = some (.row (fdC [] false (left - 1) 0) 4 1) := by rw [keep2 b3 (by rw [q3]; simp)]; exact q3
              have p6 : σ2 b6 = some (.row zf4 4 1) := by rw [keep2 b6 (by rw [q6]; simp)]; exact q6
              have p1 : σ2 b1 = some (.row (s.flatMap rgC) 2 c1) := by rw [keep2 b1 (by rw [hr1]; simp), hr1]; rfl
              have p2 : σ2 b2 = some (.row (s.flatMap rgC) 2 c2) := by rw [hr2]; rfl
              have n13 : ¬ b1 = b3 := fun e => by rw [e, hs3] at hn1; cases hn1
              have n16 : ¬ b1 = b6 := fun e => by rw [e, hs6] at hn1; cases hn1
              have n21 : ¬ b2 = b1 := fun e => by rw [e, hr1] at hn2; cases hn2
              have n23 : ¬ b2 = b3 := fun e => by rw [e, q3] at hn2; cases hn2
              have n26 : ¬ b2 = b6 := fun e => by rw [e, q6] at hn2; cases hn2
              have d1 : σ b1 = none := hD.free hn1
              have d2 : σ b2 = none := (hD1.trans hD).free hn2
              have dAll : Drop σ2 σ := (hD2.trans hD1).trans hD
              have n12 : ¬ b1 = b2 := fun e => n21 e.symm
              have n31 : ¬ b3 = b1 := fun e => n13 e.symm
              have n32 : ¬ b3 = b2 := fun e => n23 e.symm
              have n61 : ¬ b6 = b1 := fun e => n16 e.symm
              have n62 : ¬ b6 = b2 := fun e => n26 e.symm
              have hA1 : (w * 2 + 1 + 1 ≤ s.length * 2) = True := eq_true (by omega)
              have hA2 : (w * 2 + 1 ≤ s.length * 2) = True := eq_true (by omega)
              simp only [go_sem, xQ, ↓reduceIte, xA, xM, xL, xT, xE, xN, h1', h3, h6, h7, h9, h10, hwl, hA1, hA2, p1, p2, p3, p6, n12, n21, n13, n16, n23, n26, n31, n32, n61, n62, n6, n6', rows_put0 hx, rows_put1 hx, hw2, rows_len2]
              have hVl : Vs (s.set w ⟨x.lo, mid⟩) := hV2.set ⟨by simp only; omega, by simp only; omega, by simp only; omega⟩
              have hVh : Vs (s.set w ⟨mid + 1, x.hi⟩) := hV2.set ⟨by simp only; omega, by simp only; omega, by simp only; omega⟩
              have ihA := ih (left - 1) (s.set w ⟨x.lo, mid⟩) (by omega) (by omega) (by omega) (by rw [List.length_set]; exact hs2) hVl
              have hAl := seekP_left l f (left - 1) (s.set w ⟨x.lo, mid⟩) (by omega)
              have hAv := seekP_vals l f (left - 1) (s.set w ⟨x.lo, mid⟩)
              have hres : seekP l (f + 1) left sp = (if (seekP l f (left - 1) (s.set w ⟨x.lo, mid⟩)).is = true ∨ (seekP l f (left - 1) (s.set w ⟨x.lo, mid⟩)).err ≠ 0 then seekP l f (left - 1) (s.set w ⟨x.lo, mid⟩) else seekP l f (seekP l f (left - 1) (s.set w ⟨x.lo, mid⟩)).left (s.set w ⟨mid + 1, x.hi⟩)) := by
                rw [seekP, if_neg hz, hn]
                simp only [hwp, Int.toNat_natCast, hx, hmid, hw2]
                rw [if_neg (by omega)]
                have hBv := seekP_vals l f (seekP l f (left - 1) (s.set w ⟨x.lo, mid⟩)).left (s.set w ⟨mid + 1, x.hi⟩)
                generalize seekP l f (seekP l f (left - 1) (s.set w ⟨x.lo, mid⟩)).left (s.set w ⟨mid + 1, x.hi⟩) = B at hBv ⊢
                generalize seekP l f (left - 1) (s.set w ⟨x.lo, mid⟩) = A
                obtain ⟨Av, Ai, Ae, Al⟩ := A
                obtain ⟨Bv, Bi, Be, Bl⟩ := B
                cases Ai with
                | true => simp
                | false =>
                  by_cases hAe : Ae = 0
                  · subst hAe
                    cases Bi with
                    | true => simp
                    | false =>
                      have := hBv rfl
                      simp only at this
                      subst this
                      by_cases hBe : Be = 0
                      · subst hBe; simp
                      · simp [hBe]
                  · simp [hAe]
              generalize hA : seekP l f (left - 1) (s.set w ⟨x.lo, mid⟩) = A at ihA hAl hAv hres
              have call2 : PCalls Tryz.prog Γ 130 [fdOf A, slT l, slR (s.set w ⟨mid + 1, x.hi⟩)] (fdOf (seekP l (f + 1) left sp)) := by
                rw [hres]
                by_cases hc : A.is = true ∨ A.err ≠ 0
                · rw [if_pos hc]
                  exact f130x A.vals A.is A.left A.err l _ hc
                · rw [if_neg hc]
                  have hi : A.is = false := by cases h : A.is with
                    | false => rfl
                    | true => exact absurd (.inl h) hc
                  have he : A.err = 0 := by
                    by_cases h : A.err = 0
                    · exact h
                    · exact absurd (.inr h) hc
                  have hv := hAv hi
                  have eA : fdOf A = fdA [] false A.left 0 := by unfold fdOf; rw [hi, he, hv]
                  rw [eA]
                  exact ih A.left (s.set w ⟨mid + 1, x.hi⟩) (by omega) (by omega) (by omega) (by rw [List.length_set]; exact hs2) hVh
              generalize seekP l (f + 1) left sp = R at call2
              simp only [slR, List.length_set] at ihA call2
              refine callB_drop (Drop.ers _ b1) ihA (.cons (.refl _) (.cons (.refl _) (.cons (put_own (c := c1) ?_ ?_ (ers_same _ _)) .nil))) ?_
              · rw [upd_ne _ _ _ _ n12, upd_same]
              · rw [rows_len2, List.length_set]
              simp only [go_sem, xQ, ↓reduceIte, xA, xM, xL, xT, xE, xN, h1', h3, h6, h7, h9, h10]
              refine callB_drop (Drop.ers _ b2) call2 (.cons (.refl _) (.cons (.refl _) (.cons (put_own (c := c2) ?_ ?_ (ers_same _ _)) .nil))) ?_
              · rw [ers_ne _ _ _ n21, upd_same]
              · rw [rows_len2, List.length_set]
              simp only [go_sem, xQ, ↓reduceIte, xA, xM, xL, xT, xE, xN, h1', h3, h6, h7, h9, h10, fdOf, ers_at, n61, n62, p6, zf4]
              exact retP_drop (by repeat (first | exact Drop.refl _ | assumption | refine Drop.upd ?_ (by assumption) | refine Drop.ersL ?_ (by assumption))) rfl
end Go.AL

/- Search of the reference; ProveSearches. -/
set_option linter.unusedVariables false
set_option linter.unusedSimpArgs false
namespace Go.AL
open Go.Proofs
variable {Γ : Glob}
attribute [local irreducible] codeW opsW dopsW
theorem seekP_is (l : List Tm) : ∀ (f : Nat) (left : Int) (sp : List Rg), (seekP l f left sp).is = true → (seekP l f left sp).err = 0
  | 0, _, _ => fun h => by cases h
  | f + 1, left, sp => by
    rw [seekP]
    split
    · exact fun h => by cases h
    · split
      · exact fun h => by cases h
      · split
        · exact fun _ => rfl
        · split
          · exact fun h => by cases h
          · rename_i s _ _ _ r _
            have i1 := seekP_is l f (left - 1) (s.set (widestP s 0 s (-1)).toNat ⟨r.lo, floorP (IntKind.i64.wrap (r.lo + r.hi)) 2⟩)
            generalize seekP l f (left - 1) (s.set (widestP s 0 s (-1)).toNat ⟨r.lo, floorP (IntKind.i64.wrap (r.lo + r.hi)) 2⟩) = A at i1 ⊢
            have i2 := seekP_is l f A.left (s.set (widestP s 0 s (-1)).toNat ⟨IntKind.i64.wrap (floorP (IntKind.i64.wrap (r.lo + r.hi)) 2 + 1), r.hi⟩)
            generalize seekP l f A.left (s.set (widestP s 0 s (-1)).toNat ⟨IntKind.i64.wrap (floorP (IntKind.i64.wrap (r.lo + r.hi)) 2 + 1), r.hi⟩) = B at i2 ⊢
            split
            · exact i1
            · split
              · split
                · exact i2
                · split
                  · exact fun h => by cases h
                  · exact i2
              · exact i1
theorem seekP_len (l : List Tm) : ∀ (f : Nat) (left : Int) (sp : List Rg), (seekP l f left sp).vals.length ≤ sp.length
  | 0, _, _ => Nat.zero_le _
  | f + 1, left, sp => by
    rw [seekP]
    split
    · exact Nat.zero_le _
    · split
      · exact Nat.zero_le _
      · rename_i s hs
        have hl := narrowedP_len hs
        split
        · simp only [List.length_map]; omega
        · split
          · exact Nat.zero_le _
          · rename_i r _
            have i1 := seekP_len l f (left - 1) (s.set (widestP s 0 s (-1)).toNat ⟨r.lo, floorP (IntKind.i64.wrap (r.lo + r.hi)) 2⟩)
            generalize seekP l f (left - 1) (s.set (widestP s 0 s (-1)).toNat ⟨r.lo, floorP (IntKind.i64.wrap (r.lo + r.hi)) 2⟩) = A at i1 ⊢
            have i2 := seekP_len l f A.left (s.set (widestP s 0 s (-1)).toNat ⟨IntKind.i64.wrap (floorP (IntKind.i64.wrap (r.lo + r.hi)) 2 + 1), r.hi⟩)
            generalize seekP l f A.left (s.set (widestP s 0 s (-1)).toNat ⟨IntKind.i64.wrap (floorP (IntKind.i64.wrap (r.lo + r.hi)) 2 + 1), r.hi⟩) = B at i2 ⊢
            rw [List.length_set, hl] at i1 i2
            split
            · exact i1
            · split
              · split
                · exact i2
                · split
                  · exact Nat.zero_le _
                  · exact i2
              · exact i1
theorem tmOk_of {t : Tm} {m : Nat} (h : checkTermE t m = 0) (hl : t.coeffs.length = m) (hm : m ≤ 8) : TmOk t m := by
  refine ⟨hl, hm, coeffs_ok h, ?_, ?_⟩ <;>
  · have h1 := (firstE_zero _).1 h (numbersE t) (by simp)
    have h2 := (firstE_zero _).1 h1 (withinE t.const (-1000000000000) 1000000000000) (by simp)
    unfold withinE at h2
    split at h2
    · simp at h2
    · omega
theorem vs_of {sp : List Rg} {m : Nat} (h : spansE sp m = 0) : Vs sp := fun r hr => by
  have h1 := (spans_ok h).2 r hr
  unfold spanE at h1
  have h2 := (firstE_zero _).1 h1
  have a := h2 (withinE r.lo (-4294967295) 4294967295) (by simp)
  have b := h2 (withinE r.hi (-4294967295) 4294967295) (by simp)
  have c := (whenE_zero (by decide)).1 (h2 (whenE (decide (r.hi < r.lo)) 9) (by simp))
  simp at c
  unfold withinE at a b
  split at a
  · simp at a
  · split at b
    · simp at b
    · omega
theorem f37 (m : Nat) (hm8 : m ≤ 8) (l : List Tm) (hl : Fits l.length) (ht : ∀ t ∈ l, TmOk t m) (n : Int) (sp : List Rg) (h0 : 0 ≤ n) (h1 : n ≤ 1000000) (hs : sp.length = m) (hV : Vs sp) : PCalls Tryz.prog Γ 37 [slT l, slR sp, int n] (.tup [slI (seekP l (n.toNat + 1) n sp).vals, .v (.bool (seekP l (n.toNat + 1) n sp).is), int (seekP l (n.toNat + 1) n sp).err]) := by
  have h130 := f130 (Γ := Γ) m hm8 l hl ht (n.toNat + 1) n sp h0 h1 (by omega) hs hV
  have hv := seekP_vals l (n.toNat + 1) n sp
  have hi := seekP_is l (n.toNat + 1) n sp
  generalize seekP l (n.toNat + 1) n sp = R at h130 hv hi ⊢
  refine pcalls (ok37 Γ) fun σ => ?_
  simp only [go_sem, xQ, ↓reduceIte, xA, xM, xL, xT, xE, xN, Tryz.f37]
  refine callB_fz (h130) (.cons (.agg (.cons .nil (FzL.refl _))) (FzL.refl _)) ?_
  simp only [go_sem, xQ, ↓reduceIte, xA, xM, xL, xT, xE, xN, fdOf]
  intro b hb
  by_cases he : R.err = 0
  · simp only [go_sem, xQ, ↓reduceIte, xA, xM, xL, xT, xE, xN, he]
    exact retP_drop (by repeat (first | exact Drop.refl _ | assumption | refine Drop.upd ?_ (by assumption))) rfl
  · have hf : R.is = false := by
      cases h : R.is with
      | false => rfl
      | true => exact absurd (hi h) he
    simp only [go_sem, xQ, ↓reduceIte, xA, xM, xL, xT, xE, xN, he, hf, hv hf]
    exact ⟨.tup (.cons .nil (FzL.refl _)), by repeat (first | exact Drop.refl _ | assumption | refine Drop.upd ?_ (by assumption))⟩
theorem f4 (hG1 : Γ 1 = some [int 0, int 0]) (hG3 : Γ 3 = some kindsT) (l : List Tm) (sp : List Rg) (n : Int) (hl : l.length ≤ 9223372036854775807) (hp : sp.length ≤ 9223372036854775807) : PCalls Tryz.prog Γ 4 [slT l, slR sp, int n] (.v (.bool true)) := by
  refine pcalls (ok4 Γ) fun σ => ?_
  simp only [go_sem, xQ, ↓reduceIte, xA, xM, xL, xT, xE, xN, Tryz.f4]
  refine callB_use (f20 l hl) rfl ?_
  cases h1 : shortTermsB l with
  | false =>
    simp only [go_sem, xQ, ↓reduceIte, xA, xM, xL, xT, xE, xN]
    refine callB_use (f22 hG1 hG3) rfl ?_
    simp only [go_sem, xQ, ↓reduceIte, xA, xM, xL, xT, xE, xN]
  | true =>
    obtain ⟨a1, a2⟩ := shortTerms_ok h1
    have hc : ∀ t ∈ l, Fits t.coeffs.length := fun t ht => by have := a2 t ht; omega
    by_cases h2 : (10 : Int) < sp.length
    · simp only [go_sem, xQ, ↓reduceIte, xA, xM, xL, xT, xE, xN, h2]
      refine callB_use (f22 hG1 hG3) rfl ?_
      simp only [go_sem, xQ, ↓reduceIte, xA, xM, xL, xT, xE, xN]
    · have hsF : Fits sp.length := by omega
      have c28 := f28 (Γ := Γ) l (by omega) hc
      rw [← checkTerms_eq] at c28
      simp only [go_sem, xQ, ↓reduceIte, xA, xM, xL, xT, xE, xN, h2]
      refine callB_use (f24 l (by omega) hc) rfl ?_
      simp only [go_sem, xQ, ↓reduceIte, xA, xM, xL, xT, xE, xN]
      refine callB_use (f32 sp hsF) rfl ?_
      simp only [go_sem, xQ, ↓reduceIte, xA, xM, xL, xT, xE, xN]
      refine callB_use (f31 l sp n (by omega) hc hsF) rfl ?_
      simp only [go_sem, xQ, ↓reduceIte, xA, xM, xL, xT, xE, xN]
      refine callB_use (c28) rfl ?_
      by_cases h3 : checkTermsE l = 0
      · obtain ⟨hne, _, hts⟩ := terms_ok h3
        have hT : ∀ t ∈ l, TmOk t (varsOf l) := fun t ht => tmOk_of (hts t ht).1 (hts t ht).2.1 (hts t ht).2.2
        have hm8 : varsOf l ≤ 8 := by
          cases l with
          | nil => exact absurd rfl hne
          | cons t l => exact (hts t List.mem_cons_self).2.2
        simp only [go_sem, xQ, ↓reduceIte, xA, xM, xL, xT, xE, xN, h3]
        refine callB_use (f35 l) rfl ?_
        simp only [go_sem, xQ, ↓reduceIte, xA, xM, xL, xT, xE, xN]
        refine callB_use (f34 sp _ hsF) rfl ?_
        simp only [go_sem, xQ, ↓reduceIte, xA, xM, xL, xT, xE, xN]
        refine callB_use (f36 n) rfl ?_
        simp only [go_sem, xQ, ↓reduceIte, xA, xM, xL, xT, xE, xN]
        refine callB_use (f33 [_, _] (by simp)) rfl ?_
        by_cases h4 : firstE [spansE sp (varsOf l), withinE n 1 200] = 0
        · have h5 := (firstE_zero _).1 h4
          have h6 := vs_of (h5 _ (by simp) : spansE sp (varsOf l) = 0)
          have h7 : withinE n 1 200 = 0 := h5 _ (by simp)
          have h8 : 1 ≤ n ∧ n ≤ 200 := by
            unfold withinE at h7
            split at h7
            · simp at h7
            · omega
          have hres : SearchP l sp n = ((seekP l (n.toNat + 1) n sp).vals, (seekP l (n.toNat + 1) n sp).is, (seekP l (n.toNat + 1) n sp).err) := by rw [SearchP, if_pos h3, if_pos h4]
          simp only [go_sem, xQ, ↓reduceIte, xA, xM, xL, xT, xE, xN, h4, hres]
          refine callB_use (f37 (varsOf l) hm8 l (by omega) hT n sp (by omega) (by omega) (spans_ok (h5 _ (by simp) : spansE sp (varsOf l) = 0)).1 h6) rfl ?_
          simp only [go_sem, xQ, ↓reduceIte, xA, xM, xL, xT, xE, xN]
          refine callB_use (f38 _ _ (by have := seekP_len l (n.toNat + 1) n sp; omega)) rfl ?_
          simp only [go_sem, xQ, ↓reduceIte, xA, xM, xL, xT, xE, xN, beq_self_eq_true, eq_self_iff_true, decide_true]
          refine callB_use (f22 hG1 hG3) rfl ?_
          simp only [go_sem, xQ, ↓reduceIte, xA, xM, xL, xT, xE, xN]
        · have hres : SearchP l sp n = ([], false, firstE [spansE sp (varsOf l), withinE n 1 200]) := by rw [SearchP, if_pos h3, if_neg h4]
          simp only [go_sem, xQ, ↓reduceIte, xA, xM, xL, xT, xE, xN, h4, hres]
          refine callB_fz (f38 [] [] (by simp)) (.cons (.refl _) (.cons .nil .nil)) ?_
          simp only [go_sem, xQ, ↓reduceIte, xA, xM, xL, xT, xE, xN, beq_self_eq_true, eq_self_iff_true, decide_true]
          refine callB_use (f22 hG1 hG3) rfl ?_
          simp only [go_sem, xQ, ↓reduceIte, xA, xM, xL, xT, xE, xN]
      · have hres : SearchP l sp n = ([], false, checkTermsE l) := by rw [SearchP, if_neg h3]
        simp only [go_sem, xQ, ↓reduceIte, xA, xM, xL, xT, xE, xN, h3, hres]
        refine callB_fz (f38 [] [] (by simp)) (.cons (.refl _) (.cons .nil .nil)) ?_
        simp only [go_sem, xQ, ↓reduceIte, xA, xM, xL, xT, xE, xN, beq_self_eq_true, eq_self_iff_true, decide_true]
        refine callB_use (f22 hG1 hG3) rfl ?_
        simp only [go_sem, xQ, ↓reduceIte, xA, xM, xL, xT, xE, xN]
end Go.AL
