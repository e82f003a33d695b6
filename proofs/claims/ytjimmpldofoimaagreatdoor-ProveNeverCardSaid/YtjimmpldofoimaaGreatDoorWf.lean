import Derived.Test.YtjimmpldofoimaaGreatDoorVa
import Derived.Test.YtjimmpldofoimaaGreatDoorWd
import Derived.Test.YtjimmpldofoimaaGreatDoorWe
set_option linter.unusedVariables false
set_option linter.unusedSimpArgs false
namespace Go.AL
open Go.Proofs
variable {Γ : Glob}
attribute [local irreducible] codeW opsW dopsW
theorem roundT_len (t : Tm) : ∀ (cs : List Int) (i : Nat) (ch : Bool) (sp : List Rg), (roundT t i cs ch sp).2.2.length = sp.length
 | [], _, _, _ => rfl
 | c :: cs, i, ch, sp => by
  rw [roundT]
  split
  ·exact roundT_len t cs _ _ _
  ·split
   ·rfl
   ·split
    ·simp
    ·rw [roundT_len t cs]; simp
theorem roundP_len : ∀ (l : List Tm) (ch : Bool) (sp : List Rg), (roundP l ch sp).2.2.length = sp.length
 | [], _, _ => rfl
 | t :: l, ch, sp => by
  rw [roundP]
  split
  ·exact roundT_len _ _ _ _ _
  ·rw [roundP_len l, roundT_len]
def narrowA (o : Option (List Rg)) : AV := .tup [slR (o.getD []), .v (.bool o.isSome)]
theorem rows_zeros (n : Nat) : ((List.replicate n [AV.v (.int .i64 0), AV.v (.int .i64 0)]).flatten).length = n * 2 := by
 induction n with
 | zero => rfl
 | succ n ih => rw [List.replicate_succ, List.flatten_cons, List.length_append, ih]; simp; omega
theorem rg_one (l : List Rg) : (l.flatMap rgC).all AV.one = true := by
 induction l with
 | nil => rfl
 | cons t l ih => rw [List.flatMap_cons, List.all_append, ih]; rfl
theorem f174 (m : Nat) (hm : Fits m) (l : List Tm) (hl : Fits l.length) (hml : ∀ t ∈ l, t.coeffs.length = m) (hcf : ∀ t ∈ l, ∀ c ∈ t.coeffs, -1000000 ≤ c ∧ c ≤ 1000000) (sp : List Rg) (hsp : sp.length = m) : PCalls Tryz.prog Γ 174 [slT l, slR sp] (narrowA (narrowedP l sp)) := by
 refine pcalls (ok174 Γ) fun σ => ?_
 have hA8 : (16 : Int) * m ≤ 140737488355328 := by omega
 have hA9 : (m : Int) ≤ 9223372036854775807 := by omega
 have hsl : slR sp = .sl (sp.flatMap rgC) m := by rw [slR, hsp]
 generalize hR0 : roundsP l 20 sp = R0
 simp only [go_sem, Tryz.f174, hA8, hA9, hsp]
 intro b hb
 simp only [go_sem, hA8, hA9, hsp]
 refine copB_all (k := ⟨true, 2, _⟩) (x := .sl (sp.flatMap rgC) m) (xs := sp.flatMap rgC) el49 tk91 (upd_same _ _ _) (rows_zeros m) ⟨rfl, rfl, by rw [rows_len2, hsp]⟩ (rg_one sp) ?_
 simp only [go_sem]
 refine SemC.loopK mixed 20 (fun k ρ σ' ds => (ds = [] ∧ ρ 0 = slT l ∧ ρ 6 = .own b 2 0 m ∧ ρ 17 = int k) ∧ ∃ s, σ' b = some (.row (s.flatMap rgC) 2 m) ∧ s.length = m ∧ Drop σ' σ ∧ R0 = roundsP l (20 - k) s) (by kernel_rfl)
  ⟨by simp only [go_sem], sp, by simp only [go_sem, upd_at], hsp, by repeat (first | exact Drop.refl _ | refine Drop.upd ?_ (by assumption)), hR0.symm⟩ ?_
 rintro k ρ σ' ds hk ⟨⟨rfl, h0, h6, h17⟩, s, hsb, hs, hD, hz⟩
 by_cases hk20 : k < 20
 ·have hk20' : (k : Int) < 20 := by omega
  rw [show 20 - k = (20 - (k + 1)) + 1 by omega, roundsP] at hz
  simp only [go_sem, h0, h6, h17, hk20']
  refine callB_a (f230 m hm l hl hml hcf s hs hsb ?_) rfl
  have hs2 : (roundP l false s).2.2.length = m := by rw [roundP_len, hs]
  generalize hR : roundP l false s = R at hz hs2
  obtain ⟨em, ch, s2⟩ := R
  simp only at hz hs2
  cases em with
  | true =>
   have hres : narrowedP l sp = none := by rw [narrowedP, hR0, hz]; rfl
   simp only [go_sem, h0, h6, h17, hk20', hR, hres, narrowA]
   exact ⟨.tup (.cons .nil (.cons (.refl _) .nil)), hD.upd hb⟩
  | false =>
   cases ch with
   | true =>
    simp only [go_sem, h0, h6, h17, hk20', hR]
    exact ⟨hk20, by rw [wrap_succ _ (by omega)], s2, rfl, hs2, hD.upd hb, hz⟩
   | false =>
    simp only [go_sem, h0, h6, h17, hk20', hR]
    have hsb2 : upd σ' b (some (.row (s2.flatMap rgC) 2 m)) b = some (.row (s2.flatMap rgC) 2 m) := upd_same _ _ _
    have hD3 : Drop (upd σ' b (some (.row (s2.flatMap rgC) 2 m))) σ := hD.upd hb
    have hs3 : s2.length = m := hs2
    have hz3 : R0 = some s2 := hz
    refine SemC.loopK mixed l.length (fun k ρ σ' ds => (ds = [] ∧ ρ 6 = .own b 2 0 m ∧ ρ 29 = slT l ∧ ρ 30 = int l.length ∧ ρ 31 = int k) ∧ σ' b = some (.row (s2.flatMap rgC) 2 m) ∧ Drop σ' σ ∧ l.any (fun t => decide (greatP t s2 (-1) < 0)) = (l.drop k).any (fun t => decide (greatP t s2 (-1) < 0))) (by kernel_rfl)
     ⟨by simp only [go_sem, h0, h6, h17], hsb2, hD3, rfl⟩ ?_
    rintro i ρ σ2 ds hi ⟨⟨rfl, h6, h29, h30, h31⟩, hsb4, hD4, hz4⟩
    rcases get_or_end l i hi with ⟨t, ht, hlt, hd⟩ | hk
    ·rw [hd, List.any_cons] at hz4
     have hct := hml t (mem_of_get ht)
     simp only [go_sem, h6, h29, h30, h31, hlt, ht, ↓tm_part ht]
     intro b10 hb10
     have n10 := none_ne hb10 hsb4
     simp only [go_sem, h6, h29, h30, h31, hlt, ht, ↓tm_part ht, n10, hsb4]
     have h231 := f231 (Γ := Γ) t s2 (-1) (by omega) (by omega)
     simp only [tmA, tmC, slI, slR, hs3] at h231
     refine callB_bor h231 rfl (.cons (.refl _) (.cons (put_own (c := m) (by simp only [upd_at, n10, hsb4, ↓reduceIte]) (by rw [rows_len2, hs3]) rfl) (.cons (.refl _) .nil))) ?_
     by_cases hg : greatP t s2 (-1) < 0
     ·have hres : narrowedP l sp = none := by rw [narrowedP, hR0, hz3]; simp only [hz4, hg, decide_true, Bool.true_or, if_true]
      simp only [go_sem, h6, h29, h30, h31, hg, hres, narrowA]
      exact ⟨.tup (.cons .nil (.cons (.refl _) .nil)), by repeat (first | assumption | refine Drop.upd ?_ (hD4.free hb10))⟩
     ·simp only [go_sem, h6, h29, h30, h31, hg]
      have n10' : ¬ b10 = b := fun e => n10 e.symm
      exact ⟨hlt, by rw [wrap_succ _ (by omega)], by simp only [go_sem, upd_at, n10, hsb4], by repeat (first | assumption | refine Drop.upd ?_ (hD4.free hb10)), by rw [hz4]; simp [hg]⟩
    ·subst hk
     rw [List.drop_length] at hz4
     have hres : narrowedP l sp = some s2 := by rw [narrowedP, hR0, hz3]; simp only [hz4, List.any_nil, Bool.false_eq_true, if_false]
     simp only [go_sem, h6, h29, h30, h31, Nat.lt_irrefl, hres, narrowA]
     exact ⟨.tup (.cons (by simp only [slR, Option.getD_some, hs3]; exact put_own hsb4 (by rw [rows_len2, hs3]) hb) (.cons (.refl _) .nil)), hD4⟩
 ·have hk20' : ¬ (k : Int) < 20 := by omega
  have hkk : k = 20 := by omega
  simp only [go_sem, h0, h6, h17, hk20']
  have hsb2 := hsb
  have hD3 := hD
  have hs3 := hs
  have hz3 : R0 = some s := by rw [hz, hkk]; rfl
  refine SemC.loopK mixed l.length (fun k ρ σ' ds => (ds = [] ∧ ρ 6 = .own b 2 0 m ∧ ρ 29 = slT l ∧ ρ 30 = int l.length ∧ ρ 31 = int k) ∧ σ' b = some (.row (s.flatMap rgC) 2 m) ∧ Drop σ' σ ∧ l.any (fun t => decide (greatP t s (-1) < 0)) = (l.drop k).any (fun t => decide (greatP t s (-1) < 0))) (by kernel_rfl)
   ⟨by simp only [go_sem, h0, h6, h17], hsb2, hD3, rfl⟩ ?_
  rintro i ρ σ2 ds hi ⟨⟨rfl, h6, h29, h30, h31⟩, hsb4, hD4, hz4⟩
  rcases get_or_end l i hi with ⟨t, ht, hlt, hd⟩ | hk
  ·rw [hd, List.any_cons] at hz4
   have hct := hml t (mem_of_get ht)
   simp only [go_sem, h6, h29, h30, h31, hlt, ht, ↓tm_part ht]
   intro b10 hb10
   have n10 := none_ne hb10 hsb4
   simp only [go_sem, h6, h29, h30, h31, hlt, ht, ↓tm_part ht, n10, hsb4]
   have h231 := f231 (Γ := Γ) t s (-1) (by omega) (by omega)
   simp only [tmA, tmC, slI, slR, hs3] at h231
   refine callB_bor h231 rfl (.cons (.refl _) (.cons (put_own (c := m) (by simp only [upd_at, n10, hsb4, ↓reduceIte]) (by rw [rows_len2, hs3]) rfl) (.cons (.refl _) .nil))) ?_
   by_cases hg : greatP t s (-1) < 0
   ·have hres : narrowedP l sp = none := by rw [narrowedP, hR0, hz3]; simp only [hz4, hg, decide_true, Bool.true_or, if_true]
    simp only [go_sem, h6, h29, h30, h31, hg, hres, narrowA]
    exact ⟨.tup (.cons .nil (.cons (.refl _) .nil)), by repeat (first | assumption | refine Drop.upd ?_ (hD4.free hb10))⟩
   ·simp only [go_sem, h6, h29, h30, h31, hg]
    have n10' : ¬ b10 = b := fun e => n10 e.symm
    exact ⟨hlt, by rw [wrap_succ _ (by omega)], by simp only [go_sem, upd_at, n10, hsb4], by repeat (first | assumption | refine Drop.upd ?_ (hD4.free hb10)), by rw [hz4]; simp [hg]⟩
  ·subst hk
   rw [List.drop_length] at hz4
   have hres : narrowedP l sp = some s := by rw [narrowedP, hR0, hz3]; simp only [hz4, List.any_nil, Bool.false_eq_true, if_false]
   simp only [go_sem, h6, h29, h30, h31, Nat.lt_irrefl, hres, narrowA]
   exact ⟨.tup (.cons (by simp only [slR, Option.getD_some, hs3]; exact put_own hsb4 (by rw [rows_len2, hs3]) hb) (.cons (.refl _) .nil)), hD4⟩
theorem coeffs_ok {t : Tm} {n : Int} (h : checkTermE t n = 0) : ∀ c ∈ t.coeffs, -1000000 ≤ c ∧ c ≤ 1000000 := fun c hc => by
 have h1 := (firstE_zero _).1 h (numbersE t) (by simp)
 have h2 := (firstE_zero _).1 h1 _ (List.mem_cons_self)
 have h3 := (firstE_zero _).1 h2 _ (List.mem_map_of_mem hc)
 unfold withinE at h3
 split at h3
 ·simp at h3
 ·omega
theorem spans_ok {sp : List Rg} {m : Nat} (h : spansE sp m = 0) : sp.length = m ∧ ∀ r ∈ sp, spanE r = 0 := by
 have h1 := (firstE_zero _).1 h
 have h2 := (whenE_zero (by decide)).1 (h1 (whenE (!decide ((sp.length : Int) = m)) 2) (by simp))
 simp at h2
 have h3 := (firstE_zero _).1 (h1 (firstE (sp.map spanE)) (by simp))
 exact ⟨by omega, fun r hr => h3 _ (List.mem_map_of_mem hr)⟩
def NarrowedP (l : List Tm) (sp : List Rg) : List Rg × Int :=
 if checkTermsE l = 0 then
  if spansE sp (varsOf l) = 0 then (match narrowedP l sp with | some s => (s, 0) | none => ([], 28))
  else ([], spansE sp (varsOf l))
 else ([], checkTermsE l)
theorem f85 (l : List Tm) (sp : List Rg) (hl : Fits l.length) (hc : ∀ t ∈ l, Fits t.coeffs.length) (hs : Fits sp.length) : PCalls Tryz.prog Γ 85 [slT l, slR sp] (.tup [slR (NarrowedP l sp).1, int (NarrowedP l sp).2]) := by
 refine pcalls (ok85 Γ) fun σ => ?_
 simp only [go_sem, Tryz.f85]
 refine callB_use (f27 l hl hc) rfl ?_
 by_cases h1 : checkTermsE l = 0
 ·obtain ⟨hne, _, hts⟩ := terms_ok h1
  obtain ⟨t0, ht0⟩ : ∃ t0, l[0]? = some t0 := by
   cases l with
   | nil => exact absurd rfl hne
   | cons t l => exact ⟨t, rfl⟩
  have hm0 := (hts t0 (mem_of_get ht0)).2.1
  have hlt' : (0 : Int) < l.length := by have := lt_of_getElem? ht0; omega
  have hg0 : (l.flatMap tmC)[0]? = some (slI t0.coeffs) := by simpa using tm_get0 ht0
  rw [slI, hm0] at hg0
  simp only [go_sem, h1, hlt', hg0]
  refine callB_use (f127 sp (varsOf l) hs) rfl ?_
  by_cases h2 : spansE sp (varsOf l) = 0
  ·simp only [go_sem, h1, h2, hlt', hg0]
   refine callB_use (f174 (varsOf l) (by have := (hts t0 (mem_of_get ht0)).2.2; omega) l hl (fun t ht => (hts t ht).2.1) (fun t ht => coeffs_ok (hts t ht).1) sp (spans_ok h2).1) rfl ?_
   cases hn : narrowedP l sp with
   | none =>
    have hres : NarrowedP l sp = ([], 28) := by rw [NarrowedP, if_pos h1, if_pos h2, hn]
    simp only [go_sem, narrowA, hres, Option.getD_none, Option.isSome_none]
    exact ⟨.tup (.cons .nil (.cons (.refl _) .nil)), Drop.refl _⟩
   | some s =>
    have hres : NarrowedP l sp = (s, 0) := by rw [NarrowedP, if_pos h1, if_pos h2, hn]
    simp only [go_sem, narrowA, hres, Option.getD_some, Option.isSome_some]
  ·have hres : NarrowedP l sp = ([], spansE sp (varsOf l)) := by rw [NarrowedP, if_pos h1, if_neg h2]
   simp only [go_sem, h1, h2, hres]
   exact ⟨.tup (.cons .nil (.cons (.refl _) .nil)), Drop.refl _⟩
 ·have hres : NarrowedP l sp = ([], checkTermsE l) := by rw [NarrowedP, if_neg h1]
  simp only [go_sem, h1, hres]
  exact ⟨.tup (.cons .nil (.cons (.refl _) .nil)), Drop.refl _⟩
structure Sk where
 vals : List Int
 is : Bool
 err : Int
 left : Int
def widestP (l : List Rg) : Nat → List Rg → Int → Int
 | _, [], w => w
 | k, r :: rs, w => widestP l (k + 1) rs (if 0 < sizeP r then (if w < 0 then (k : Int) else match l[w.toNat]? with
   | none => w
   | some x => if sizeP x < sizeP r then (k : Int) else w) else w)
def seekP (l : List Tm) : Nat → Int → List Rg → Sk
 | 0, left, _ => ⟨[], false, 0, left⟩
 | f + 1, left, sp =>
  if left = 0 then ⟨[], false, 30, left⟩
  else match narrowedP l sp with
   | none => ⟨[], false, 0, left - 1⟩
   | some s =>
    if widestP s 0 s (-1) < 0 then ⟨s.map (·.lo), true, 0, left - 1⟩
    else match s[(widestP s 0 s (-1)).toNat]? with
     | none => ⟨[], false, 0, left - 1⟩
     | some r =>
      if (seekP l f (left - 1) (s.set (widestP s 0 s (-1)).toNat ⟨r.lo, floorP (IntKind.i64.wrap (r.lo + r.hi)) 2⟩)).is then seekP l f (left - 1) (s.set (widestP s 0 s (-1)).toNat ⟨r.lo, floorP (IntKind.i64.wrap (r.lo + r.hi)) 2⟩)
      else if (seekP l f (left - 1) (s.set (widestP s 0 s (-1)).toNat ⟨r.lo, floorP (IntKind.i64.wrap (r.lo + r.hi)) 2⟩)).err = 0 then
       (if (seekP l f (seekP l f (left - 1) (s.set (widestP s 0 s (-1)).toNat ⟨r.lo, floorP (IntKind.i64.wrap (r.lo + r.hi)) 2⟩)).left (s.set (widestP s 0 s (-1)).toNat ⟨IntKind.i64.wrap (floorP (IntKind.i64.wrap (r.lo + r.hi)) 2 + 1), r.hi⟩)).is then
        seekP l f (seekP l f (left - 1) (s.set (widestP s 0 s (-1)).toNat ⟨r.lo, floorP (IntKind.i64.wrap (r.lo + r.hi)) 2⟩)).left (s.set (widestP s 0 s (-1)).toNat ⟨IntKind.i64.wrap (floorP (IntKind.i64.wrap (r.lo + r.hi)) 2 + 1), r.hi⟩)
       else if (seekP l f (seekP l f (left - 1) (s.set (widestP s 0 s (-1)).toNat ⟨r.lo, floorP (IntKind.i64.wrap (r.lo + r.hi)) 2⟩)).left (s.set (widestP s 0 s (-1)).toNat ⟨IntKind.i64.wrap (floorP (IntKind.i64.wrap (r.lo + r.hi)) 2 + 1), r.hi⟩)).err = 0 then
        ⟨[], false, 0, (seekP l f (seekP l f (left - 1) (s.set (widestP s 0 s (-1)).toNat ⟨r.lo, floorP (IntKind.i64.wrap (r.lo + r.hi)) 2⟩)).left (s.set (widestP s 0 s (-1)).toNat ⟨IntKind.i64.wrap (floorP (IntKind.i64.wrap (r.lo + r.hi)) 2 + 1), r.hi⟩)).left⟩
       else seekP l f (seekP l f (left - 1) (s.set (widestP s 0 s (-1)).toNat ⟨r.lo, floorP (IntKind.i64.wrap (r.lo + r.hi)) 2⟩)).left (s.set (widestP s 0 s (-1)).toNat ⟨IntKind.i64.wrap (floorP (IntKind.i64.wrap (r.lo + r.hi)) 2 + 1), r.hi⟩))
      else seekP l f (left - 1) (s.set (widestP s 0 s (-1)).toNat ⟨r.lo, floorP (IntKind.i64.wrap (r.lo + r.hi)) 2⟩)
theorem seekP_left (l : List Tm) : ∀ (f : Nat) (left : Int) (sp : List Rg), 0 ≤ left → 0 ≤ (seekP l f left sp).left ∧ (seekP l f left sp).left ≤ left
 | 0, left, sp, h => ⟨h, Int.le_refl _⟩
 | f + 1, left, sp, h => by
  rw [seekP]
  split
  ·exact ⟨h, Int.le_refl _⟩
  ·split
   ·exact ⟨by simp only; omega, by simp only; omega⟩
   ·split
    ·exact ⟨by simp only; omega, by simp only; omega⟩
    ·split
     ·exact ⟨by simp only; omega, by simp only; omega⟩
     ·rename_i s _ _ _ r _
      have i1 := seekP_left l f (left - 1) (s.set (widestP s 0 s (-1)).toNat ⟨r.lo, floorP (IntKind.i64.wrap (r.lo + r.hi)) 2⟩) (by omega)
      generalize seekP l f (left - 1) (s.set (widestP s 0 s (-1)).toNat ⟨r.lo, floorP (IntKind.i64.wrap (r.lo + r.hi)) 2⟩) = A at i1 ⊢
      have i2 := seekP_left l f A.left (s.set (widestP s 0 s (-1)).toNat ⟨IntKind.i64.wrap (floorP (IntKind.i64.wrap (r.lo + r.hi)) 2 + 1), r.hi⟩) i1.1
      generalize seekP l f A.left (s.set (widestP s 0 s (-1)).toNat ⟨IntKind.i64.wrap (floorP (IntKind.i64.wrap (r.lo + r.hi)) 2 + 1), r.hi⟩) = B at i2 ⊢
      split
      ·omega
      ·split
       ·split
        ·omega
        ·split
         ·simp only; omega
         ·omega
       ·omega
theorem roundsP_len (l : List Tm) : ∀ (n : Nat) (sp s : List Rg), roundsP l n sp = some s → s.length = sp.length
 | 0, sp, s, h => by rw [roundsP] at h; cases h; rfl
 | n + 1, sp, s, h => by
  rw [roundsP] at h
  split at h
  ·cases h
  ·split at h
   ·rw [roundsP_len l n _ s h, roundP_len]
   ·cases h; rw [roundP_len]
theorem narrowedP_len {l : List Tm} {sp s : List Rg} (h : narrowedP l sp = some s) : s.length = sp.length := by
 unfold narrowedP at h
 split at h
 ·cases h
 ·rename_i s' hs
  split at h
  ·cases h
  ·cases h; exact roundsP_len l 20 sp _ hs
theorem undef_eq : undef = Value.tuple ⟨[]⟩ := nr rfl
theorem f215 (l : List Rg) (hl : Fits l.length) (hne : l ≠ []) {σ0 σ : Sig} (hD : Drop σ σ0) {K : AV → Sig → Prop} (hK : ∀ a σ', Drop σ' σ0 → Others .e0 σ σ' → Grow σ0 σ' 2 a (l.flatMap rgC) l.length → K a σ') : ACalls Tryz.prog Γ 215 [slR l] σ K := by
 have hcs : l.flatMap rgC ≠ [] := by
  cases l with
  | nil => exact absurd rfl hne
  | cons t l => simp [rgC]
 refine acalls (ok215 Γ) ?_
 simp only [go_sem, Tryz.f215, hcs]
 refine appB_sl (appT_sl el49 tk91 by91 el49 (by decide) rfl (by decide)) hD (Grow.e0 σ0 σ 2) (rg_one l) (rows_length rgC_len) (by omega) (fun a' σ2 hD2 hO hG2 => ?_)
 simp only [go_sem]
 exact hK a' σ2 hD2 hO (by simpa using hG2)
theorem rows_putA {sp : List Rg} {i : Nat} {r : Rg} (h : sp[i]? = some r) (x y : Int) : putL (sp.flatMap rgC) (i * 2) [AV.v (.int .i64 x), AV.v (.int .i64 y)] = (sp.set i ⟨x, y⟩).flatMap rgC :=
 rows_put (j := 0) rgC_len h fun rest => by simp [putL, rgC, int]
theorem f128 (m : Nat) (hm : Fits m) (l : List Tm) (hl : Fits l.length) (hml : ∀ t ∈ l, t.coeffs.length = m) (hcf : ∀ t ∈ l, ∀ c ∈ t.coeffs, -1000000 ≤ c ∧ c ≤ 1000000) : ∀ (fuel : Nat) (left : Int) (sp : List Rg) (σ : Sig) (b : Nat) (K : AV → Sig → Prop), 0 ≤ left → left ≤ 1000000 → left < fuel → sp.length = m →
  σ b = some (.row [slT l, int left] 2 1) → K (.tup [slI (seekP l fuel left sp).vals, .v (.bool (seekP l fuel left sp).is), int (seekP l fuel left sp).err]) (upd σ b (some (.row [slT l, int (seekP l fuel left sp).left] 2 1))) →
  ACalls Tryz.prog Γ 128 [.v (.pointer (some ⟨b, 0, none⟩)), slR sp] σ K := by
 intro fuel
 induction fuel with
 | zero => intro left sp σ b K h1 h2 h3; omega
 | succ f ih =>
  intro left sp σ b K hl0 hl6 hlf hsp hb hK
  refine ACalls.retK (acalls (ok128 Γ) ?_)
  by_cases hz : left = 0
  ·have hv : seekP l (f + 1) left sp = ⟨[], false, 30, left⟩ := by rw [seekP, if_pos hz]
   rw [hv] at hK
   simp only [go_sem, Tryz.f128, hb, hz]
   exact ⟨_, σ, .tup (.cons .nil (.cons (.refl _) (.cons (.refl _) .nil))), Drop.refl _, by rwa [upd_self hb] at hK⟩
  ·have hw1 : IntKind.i64.wrap (left - 1) = left - 1 := wrap_i64 _ (by omega) (by omega)
   simp only [go_sem, Tryz.f128, hb, hz, hw1]
   refine callB_use (f174 m hm l hl hml hcf sp hsp) rfl ?_
   cases hn : narrowedP l sp with
   | none =>
    have hv : seekP l (f + 1) left sp = ⟨[], false, 0, left - 1⟩ := by rw [seekP, if_neg hz, hn]
    rw [hv] at hK
    simp only [go_sem, narrowA, Option.getD_none, Option.isSome_none]
    exact ⟨_, _, .tup (.cons .nil (.cons (.refl _) (.cons (.refl _) .nil))), Drop.refl _, hK⟩
   | some s =>
    have hsl : s.length = m := by rw [narrowedP_len hn, hsp]
    simp only [go_sem, narrowA, Option.getD_some, Option.isSome_some]
    have hsb : upd σ b (some (.row [slT l, int (left - 1)] 2 1)) b = some (.row [slT l, int (left - 1)] 2 1) := upd_same _ _ _
    refine SemC.loopK mixed s.length (fun k ρ σ' ds => (ds = [] ∧ ρ 0 = .v (.pointer (some ⟨b, 0, none⟩)) ∧ ρ 7 = slR s ∧ ρ 42 = slR s ∧ ρ 43 = int s.length ∧ ρ 44 = int k) ∧ ∃ w, ρ 9 = int w ∧ -1 ≤ w ∧ w < s.length ∧ σ' b = some (.row [slT l, int (left - 1)] 2 1) ∧ Drop σ' (upd σ b (some (.row [slT l, int (left - 1)] 2 1))) ∧ widestP s 0 s (-1) = widestP s k (s.drop k) w) (by kernel_rfl)
     ⟨by simp only [go_sem], -1, by simp only [go_sem], by omega, by omega, hsb, Drop.refl _, rfl⟩ ?_
    rintro k ρ σ' ds hk ⟨⟨rfl, h0, h7, h42, h43, h44⟩, w, h9, hw0, hw2, hs', hD, hzw⟩
    rcases get_or_end s k hk with ⟨r, hr, hlt, hd⟩ | hk
    ·rw [hd, widestP] at hzw
     simp only [go_sem, h0, h7, h9, h42, h43, h44, hlt, hr, ↓rg_part hr]
     intro b11 hb11
     have n11 := none_ne hb11 hs'
     have hD11 := (hD.upd (hD.free hb11) (x := some (.row (rgC r) 2 1)))
     simp only [go_sem, h0, h7, h9, h42, h43, h44, hlt, hr, ↓rg_part hr, n11]
     refine callB_use (f213 r) rfl ?_
     by_cases hs0 : 0 < IntKind.i64.wrap (r.hi - r.lo)
     ·by_cases hwn : w < 0
      ·simp only [go_sem, h0, h7, h9, h42, h43, h44, hlt, hr, n11, hs0, hwn]
       exact ⟨by rw [wrap_succ _ (by omega)], k, rfl, by omega, by omega, hs', hD11, by rw [hzw]; simp [sizeP, hs0, hwn]⟩
      ·obtain ⟨w', rfl⟩ : ∃ w' : Nat, w = w' := ⟨w.toNat, by omega⟩
       have hw'l : w' < s.length := by omega
       obtain ⟨x, hx⟩ : ∃ x, s[w']? = some x := ⟨s[w'], List.getElem?_eq_getElem hw'l⟩
       simp only [go_sem, h0, h7, h9, h42, h43, h44, hlt, hr, n11, hs0, hwn]
       refine dcallB_use (f213 r) rfl ?_
       simp only [go_sem, h0, h7, h9, h42, h43, h44, hlt, hr, n11, hs0, hwn, hw'l, ↓rg_part hx]
       refine callB_use (f213 x) rfl ?_
       by_cases hcmp : IntKind.i64.wrap (x.hi - x.lo) < IntKind.i64.wrap (r.hi - r.lo)
       ·simp only [go_sem, h0, h7, h9, h42, h43, h44, hlt, hr, n11, hs0, hwn, hcmp]
        exact ⟨by rw [wrap_succ _ (by omega)], k, rfl, by omega, by omega, hs', hD11, by rw [hzw]; simp [sizeP, hs0, hwn, hcmp, hx]⟩
       ·simp only [go_sem, h0, h7, h9, h42, h43, h44, hlt, hr, n11, hs0, hwn, hcmp]
        exact ⟨by rw [wrap_succ _ (by omega)], (w' : Int), rfl, by omega, by omega, hs', hD11, by rw [hzw]; simp [sizeP, hs0, hwn, hcmp, hx]⟩
     ·simp only [go_sem, h0, h7, h9, h42, h43, h44, hlt, hr, n11, hs0, undef_eq]
      exact ⟨by rw [wrap_succ _ (by omega)], w, rfl, by omega, by omega, hs', hD11, by rw [hzw]; simp [sizeP, hs0]⟩
    ·subst hk
     rw [List.drop_length, widestP] at hzw
     subst hzw
     by_cases hwn : widestP s 0 s (-1) < 0
     ·simp only [go_sem, h0, h7, h9, h42, h43, h44, Nat.lt_irrefl, hwn]
      refine callB_use (f180 s (by omega) (.fn (.func 181) [] []) (fun r => r.lo) (fun x _ => dcall_of (f181 x) rfl)) rfl ?_
      have hv : seekP l (f + 1) left sp = ⟨s.map (·.lo), true, 0, left - 1⟩ := by rw [seekP, if_neg hz, hn]; simp only [hwn, if_true]
      rw [hv] at hK
      simp only [go_sem, h0, h7, h9, h42, h43, h44, Nat.lt_irrefl, hwn]
      exact ⟨_, _, .refl _, hD, hK⟩
     ·obtain ⟨w', hw'⟩ : ∃ w' : Nat, widestP s 0 s (-1) = w' := ⟨(widestP s 0 s (-1)).toNat, by omega⟩
      have hw'l : w' < s.length := by omega
      obtain ⟨x, hx⟩ : ∃ x, s[w']? = some x := ⟨s[w'], List.getElem?_eq_getElem hw'l⟩
      rw [hw'] at h9 hwn
      simp only [go_sem, h0, h7, h9, h42, h43, h44, Nat.lt_irrefl, hwn, hw'l]
      simp only [go_sem, h0, h7, h9, h42, h43, h44, Nat.lt_irrefl, hwn, hw'l, rg_get0 hx, rg_get1 hx]
      refine callB_use (f214 _ 2 (by decide)) rfl ?_
      simp only [go_sem, h0, h7, h9, h42, h43, h44, Nat.lt_irrefl, hwn, hw'l, rg_get0 hx, rg_get1 hx]
      have hne : s ≠ [] := fun e => by rw [e] at hw'l; simp at hw'l
      generalize hmid : floorP (IntKind.i64.wrap (x.lo + x.hi)) 2 = mid
      have ihA := fun σ b K => ih (left - 1) (s.set w' ⟨x.lo, mid⟩) σ b K (by omega) (by omega) (by omega) (by rw [List.length_set]; exact hsl)
      have hAl := seekP_left l f (left - 1) (s.set w' ⟨x.lo, mid⟩) (by omega)
      generalize hA : seekP l f (left - 1) (s.set w' ⟨x.lo, mid⟩) = A at ihA hAl
      have ihB := fun σ b K => ih A.left (s.set w' ⟨IntKind.i64.wrap (mid + 1), x.hi⟩) σ b K (by omega) (by omega) (by omega) (by rw [List.length_set]; exact hsl)
      generalize hB : seekP l f A.left (s.set w' ⟨IntKind.i64.wrap (mid + 1), x.hi⟩) = B at ihB
      have hres : seekP l (f + 1) left sp = if A.is then A else if A.err = 0 then (if B.is then B else if B.err = 0 then ⟨[], false, 0, B.left⟩ else B) else A := by
       rw [seekP, if_neg hz, hn]
       simp only [hw', hwn, if_false, Int.toNat_natCast, hx, hmid, hA, hB]
      rw [hres] at hK
      refine SemC.loopK mixed 2 (fun k ρ σ' ds => (ds = [] ∧ ρ 0 = .v (.pointer (some ⟨b, 0, none⟩)) ∧ ρ 7 = slR s ∧ ρ 9 = int w' ∧ ρ 99 = .agg [int x.lo, int mid, int (IntKind.i64.wrap (mid + 1)), int x.hi] ∧ ρ 100 = int k ∧ (1 ≤ k → A.is = false ∧ A.err = 0) ∧ (2 ≤ k → B.is = false ∧ B.err = 0) ∧
       σ' b = some (.row [slT l, int (if k = 0 then left - 1 else if k = 1 then A.left else B.left)] 2 1)) ∧ Drop σ' (upd σ b (some (.row [slT l, int (if k = 0 then left - 1 else if k = 1 then A.left else B.left)] 2 1)))) (by kernel_rfl) ⟨?_, ?_⟩ ?_
      ·simp only [go_sem, h0, h7, h9, hs']
       exact ⟨fun h => h.elim, fun h => h.elim⟩
      ·simp only [go_sem]
       exact hD
      clear h0 h7 h9 h42 h43 h44 hs' hD
      rintro k ρ σ' ds hk2 ⟨⟨rfl, h0, h7, h9, h99, h100, hA0, hB0, hs'⟩, hD⟩
      rcases (by omega : k = 0 ∨ k = 1 ∨ k = 2) with rfl | rfl | rfl
      ·simp only [go_sem] at hs' hD
       have hne0 : ¬ upd σ b (some (.row [slT l, int (left - 1)] 2 1)) b = none := by rw [upd_same]; simp
       simp only [go_sem, h0, h7, h9, h99, h100]
       intro b14 hb14
       have n14 := none_ne hb14 hs'
       have n14' : ¬ b14 = b := fun e => n14 e.symm
       simp only [go_sem, h0, h7, h9, h99, h100, n14]
       refine callB_a (f215 s (by omega) hne (hD.upd (hD.free hb14)) (fun a1 σ2 hD2 hO2 hG2 => ?_)) rfl
       have e2 : σ2 b = some (.row [slT l, int (left - 1)] 2 1) := (hO2 b (fun _ _ _ e => by cases e) (by rw [upd_ne _ _ _ _ n14, hs']; exact fun e => by cases e)).trans (by rw [upd_ne _ _ _ _ n14]; exact hs')
       have e14 := (hO2 b14 (fun _ _ _ e => by cases e) (by rw [upd_same]; exact fun e => by cases e)).trans (upd_same _ _ _)
       have hn1 := hG2.ne0 hne0
       rcases hG2 with ⟨_, _, hl0⟩ | ⟨b1, c1, rfl, g1, g2, g3⟩
       ·exact absurd (List.eq_nil_of_length_eq_zero hl0) hne
       have n1 : ¬ b1 = b := fun e => hn1 2 0 s.length (by rw [e])
       have n1' : ¬ b = b1 := fun e => n1 e.symm
       have hput := fun y z => rows_putA hx y z
       have hput' : ∀ y z, List.take (w' * 2) (s.flatMap rgC) ++ [AV.v (.int .i64 y), AV.v (.int .i64 z)] ++ List.drop (w' * 2 + 2) (s.flatMap rgC) = (s.set w' ⟨y, z⟩).flatMap rgC := fun y z => hput y z
       have hw2' : w' * 2 + 2 ≤ s.length * 2 := by omega
       simp only [go_sem, h0, h7, h9, h99, h100, hw'l, e14, g2, rows_len2, hw2', ↓hput, hput']
       have h := ihA (ers (upd σ2 b1 (some (.row ((s.set w' ⟨x.lo, mid⟩).flatMap rgC) 2 c1))) b1) b
       rw [slR, List.length_set] at h
       refine callB_afz (Drop.ers _ b1) (.cons (.refl _) (.cons (put_own (upd_same _ _ _) (by rw [rows_len2, List.length_set]) (ers_same _ _)) .nil)) (h _ (by rw [ers_ne _ _ _ n1', upd_ne _ _ _ _ n1', e2]) ?_)
       have hDf := Drop.updBoth ((hD2.upd g1 (x := some (.row ((s.set w' ⟨x.lo, mid⟩).flatMap rgC) 2 c1))).ersL g1) (some (Blk.row [slT l, int A.left] 2 1))
       cases hXi : A.is with
       | true =>
        simp only [hXi, if_true] at hK
        simp only [go_sem, h0, h7, h9, h99, h100, hXi]
        exact ⟨_, _, .refl _, hDf, hK⟩
       | false =>
        by_cases hXe : A.err = 0
        ·simp only [go_sem, h0, h7, h9, h99, h100, hXi, hXe]
         exact ⟨by decide, ⟨by rw [wrap_i64 _ (by decide) (by decide)]; rfl, fun _ => trivial, fun h => h.elim⟩, hDf⟩
        ·simp only [hXi, hXe, Bool.false_eq_true, if_false, if_true] at hK
         simp only [go_sem, h0, h7, h9, h99, h100, hXi, hXe]
         exact ⟨_, _, .refl _, hDf, hK⟩
      ·simp only [go_sem] at hs' hD
       have hne0 : ¬ upd σ b (some (.row [slT l, int (A.left)] 2 1)) b = none := by rw [upd_same]; simp
       simp only [go_sem, h0, h7, h9, h99, h100]
       intro b14 hb14
       have n14 := none_ne hb14 hs'
       have n14' : ¬ b14 = b := fun e => n14 e.symm
       simp only [go_sem, h0, h7, h9, h99, h100, n14]
       refine callB_a (f215 s (by omega) hne (hD.upd (hD.free hb14)) (fun a1 σ2 hD2 hO2 hG2 => ?_)) rfl
       have e2 : σ2 b = some (.row [slT l, int A.left] 2 1) := (hO2 b (fun _ _ _ e => by cases e) (by rw [upd_ne _ _ _ _ n14, hs']; exact fun e => by cases e)).trans (by rw [upd_ne _ _ _ _ n14]; exact hs')
       have e14 := (hO2 b14 (fun _ _ _ e => by cases e) (by rw [upd_same]; exact fun e => by cases e)).trans (upd_same _ _ _)
       have hn1 := hG2.ne0 hne0
       rcases hG2 with ⟨_, _, hl0⟩ | ⟨b1, c1, rfl, g1, g2, g3⟩
       ·exact absurd (List.eq_nil_of_length_eq_zero hl0) hne
       have n1 : ¬ b1 = b := fun e => hn1 2 0 s.length (by rw [e])
       have n1' : ¬ b = b1 := fun e => n1 e.symm
       have hput := fun y z => rows_putA hx y z
       have hput' : ∀ y z, List.take (w' * 2) (s.flatMap rgC) ++ [AV.v (.int .i64 y), AV.v (.int .i64 z)] ++ List.drop (w' * 2 + 2) (s.flatMap rgC) = (s.set w' ⟨y, z⟩).flatMap rgC := fun y z => hput y z
       have hw2' : w' * 2 + 2 ≤ s.length * 2 := by omega
       simp only [go_sem, h0, h7, h9, h99, h100, hw'l, e14, g2, rows_len2, hw2', ↓hput, hput']
       have h := ihB (ers (upd σ2 b1 (some (.row ((s.set w' ⟨IntKind.i64.wrap (mid + 1), x.hi⟩).flatMap rgC) 2 c1))) b1) b
       rw [slR, List.length_set] at h
       refine callB_afz (Drop.ers _ b1) (.cons (.refl _) (.cons (put_own (upd_same _ _ _) (by rw [rows_len2, List.length_set]) (ers_same _ _)) .nil)) (h _ (by rw [ers_ne _ _ _ n1', upd_ne _ _ _ _ n1', e2]) ?_)
       have hDf := Drop.updBoth ((hD2.upd g1 (x := some (.row ((s.set w' ⟨IntKind.i64.wrap (mid + 1), x.hi⟩).flatMap rgC) 2 c1))).ersL g1) (some (Blk.row [slT l, int B.left] 2 1))
       cases hXi : B.is with
       | true =>
        simp only [(hA0 (by decide)).1, (hA0 (by decide)).2, Bool.false_eq_true, if_false, if_true, hXi, if_true] at hK
        simp only [go_sem, h0, h7, h9, h99, h100, hXi]
        exact ⟨_, _, .refl _, hDf, hK⟩
       | false =>
        by_cases hXe : B.err = 0
        ·simp only [go_sem, h0, h7, h9, h99, h100, hXi, hXe]
         exact ⟨by decide, ⟨by rw [wrap_i64 _ (by decide) (by decide)]; rfl, fun _ => hA0 (by decide), fun _ => trivial⟩, hDf⟩
        ·simp only [(hA0 (by decide)).1, (hA0 (by decide)).2, Bool.false_eq_true, if_false, if_true, hXi, hXe, Bool.false_eq_true, if_false, if_true] at hK
         simp only [go_sem, h0, h7, h9, h99, h100, hXi, hXe]
         exact ⟨_, _, .refl _, hDf, hK⟩
      ·simp only [go_sem] at hs' hD
       have hA1 := hA0 (by decide)
       have hB1 := hB0 (by decide)
       simp only [go_sem, h0, h7, h9, h99, h100]
       simp only [hA1.1, hA1.2, hB1.1, hB1.2, Bool.false_eq_true, if_false, if_true] at hK
       exact ⟨_, _, .tup (.cons .nil (.cons (.refl _) (.cons (.refl _) .nil))), hD, hK⟩
def SearchP (l : List Tm) (sp : List Rg) (tries : Int) : List Int × Bool × Int :=
 if checkTermsE l = 0 then
  if firstE [spansE sp (varsOf l), withinE tries 1 200] = 0 then ((seekP l (tries.toNat + 1) tries sp).vals, (seekP l (tries.toNat + 1) tries sp).is, (seekP l (tries.toNat + 1) tries sp).err)
  else ([], false, firstE [spansE sp (varsOf l), withinE tries 1 200])
 else ([], false, checkTermsE l)
theorem f31 (l : List Tm) (sp : List Rg) (tries : Int) (hl : Fits l.length) (hc : ∀ t ∈ l, Fits t.coeffs.length) (hs : Fits sp.length) : PCalls Tryz.prog Γ 31 [slT l, slR sp, int tries] (.tup [slI (SearchP l sp tries).1, .v (.bool (SearchP l sp tries).2.1), int (SearchP l sp tries).2.2]) := by
 refine pcalls (ok31 Γ) fun σ => ?_
 simp only [go_sem, Tryz.f31]
 refine callB_use (f27 l hl hc) rfl ?_
 by_cases h1 : checkTermsE l = 0
 ·obtain ⟨hne, _, hts⟩ := terms_ok h1
  obtain ⟨t0, ht0⟩ : ∃ t0, l[0]? = some t0 := by
   cases l with
   | nil => exact absurd rfl hne
   | cons t l => exact ⟨t, rfl⟩
  have hm0 := (hts t0 (mem_of_get ht0)).2.1
  have hlt' : (0 : Int) < l.length := by have := lt_of_getElem? ht0; omega
  have hg0 : (l.flatMap tmC)[0]? = some (slI t0.coeffs) := by simpa using tm_get0 ht0
  rw [slI, hm0] at hg0
  simp only [go_sem, h1, hlt', hg0]
  refine callB_use (f127 sp (varsOf l) hs) rfl ?_
  simp only [go_sem, h1, hlt', hg0]
  refine callB_use (f124 _ _ _) rfl ?_
  simp only [go_sem, h1, hlt', hg0]
  refine callB_use (f120 [_, _] (by simp)) rfl ?_
  by_cases h2 : firstE [spansE sp (varsOf l), withinE tries 1 200] = 0
  ·have h3 := (firstE_zero _).1 h2
   have h4 : spansE sp (varsOf l) = 0 := h3 _ (by simp)
   have h5 : withinE tries 1 200 = 0 := h3 _ (by simp)
   have h6 : 1 ≤ tries ∧ tries ≤ 200 := by
    unfold withinE at h5
    split at h5
    ·simp at h5
    ·omega
   have hres : SearchP l sp tries = ((seekP l (tries.toNat + 1) tries sp).vals, (seekP l (tries.toNat + 1) tries sp).is, (seekP l (tries.toNat + 1) tries sp).err) := by rw [SearchP, if_pos h1, if_pos h2]
   simp only [go_sem, h1, h2, hlt', hg0]
   intro b hb
   simp only [go_sem, h1, h2, hlt', hg0]
   refine callB_a (f128 (varsOf l) (by have := (hts t0 (mem_of_get ht0)).2.2; omega) l hl (fun t ht => (hts t ht).2.1) (fun t ht => coeffs_ok (hts t ht).1) (tries.toNat + 1) tries sp _ b _ (by omega) (by omega) (by omega) (spans_ok h4).1 (by simp only [go_sem, upd_same]) ?_) rfl
   simp only [go_sem, h1, h2]
   exact retP_drop (by repeat (first | exact Drop.refl _ | refine Drop.upd ?_ (by assumption))) (by rw [hres])
  ·have hres : SearchP l sp tries = ([], false, firstE [spansE sp (varsOf l), withinE tries 1 200]) := by rw [SearchP, if_pos h1, if_neg h2]
   simp only [go_sem, h1, h2, hres]
   exact ⟨.tup (.cons .nil (.cons (.refl _) (.cons (.refl _) .nil))), Drop.refl _⟩
 ·have hres : SearchP l sp tries = ([], false, checkTermsE l) := by rw [SearchP, if_neg h1]
  simp only [go_sem, h1, hres]
  exact ⟨.tup (.cons .nil (.cons (.refl _) (.cons (.refl _) .nil))), Drop.refl _⟩
theorem f112 : PCalls Tryz.prog Γ 112 [] (slT [⟨[1], -3⟩, ⟨[-1], 2⟩]) := by
 refine pcalls (ok112 Γ) fun σ => ?_
 simp only [go_sem, Tryz.f112]
 refine callB_use (f202 (-3) [1]) rfl ?_
 simp only [go_sem]
 refine callB_use (f202 2 [-1]) rfl ?_
 simp only [go_sem]
 exact retP_eq rfl
theorem f113 : PCalls Tryz.prog Γ 113 [] (slT [⟨[2], -3⟩, ⟨[-2], 3⟩]) := by
 refine pcalls (ok113 Γ) fun σ => ?_
 simp only [go_sem, Tryz.f113]
 refine callB_use (f202 (-3) [2]) rfl ?_
 simp only [go_sem]
 refine callB_use (f202 3 [-2]) rfl ?_
 simp only [go_sem]
 exact retP_eq rfl
theorem f115 : PCalls Tryz.prog Γ 115 [] (slT [⟨[1, 1], -4⟩, ⟨[-1, -2], 5⟩, ⟨[-1, 1], 0⟩]) := by
 refine pcalls (ok115 Γ) fun σ => ?_
 simp only [go_sem, Tryz.f115]
 refine callB_use (f202 (-4) [1, 1]) rfl ?_
 simp only [go_sem]
 refine callB_use (f202 5 [-1, -2]) rfl ?_
 simp only [go_sem]
 refine callB_use (f202 0 [-1, 1]) rfl ?_
 simp only [go_sem]
 exact retP_eq rfl
def splitP : List St := [⟨true, [1, 0, 2], 0, 0, 0, 0⟩, ⟨true, [0, 1, 2], 0, 0, 0, 0⟩, ⟨false, [], 0, 1, 0, 1⟩]
theorem f114 : PCalls Tryz.prog Γ 114 [] (prA splitP) := by
 refine pcalls (ok114 Γ) fun σ => ?_
 simp only [go_sem, Tryz.f114]
 intro b hb
 simp only [go_sem]
 refine ⟨.agg (.cons (.sl ?_) .nil), by repeat (first | exact Drop.refl _ | refine Drop.upd ?_ (by assumption))⟩
 exact .cons (.refl _) (.cons (.refl _) (.cons (.refl _) (.cons (.refl _) (.cons (.refl _) (.cons (.refl _) (.cons (.refl _) (.cons (.refl _) (.cons (.refl _) (.cons (.refl _) (.cons (.refl _) (.cons (.refl _) (.cons (.refl _) (.cons .nil (FzL.refl _))))))))))))))
theorem f183 (l : List St) (hl : Fits l.length) (fv : AV) (g : St → ByteArray) (hg : ∀ x ∈ l, DCall Tryz.prog Γ fv [stA x] (str (g x))) : PCalls Tryz.prog Γ 183 [slS l, fv] (slStr (l.map g)) := by
 refine pcalls (ok183 Γ) fun σ => ?_
 simp only [go_sem, Tryz.f183]
 refine SemC.loopK mixed l.length (fun k ρ σ' ds => Drop σ' σ ∧ ds = [] ∧ ρ 1 = fv ∧ ρ 8 = slS l ∧ ρ 9 = int l.length ∧ ρ 10 = int k ∧ Grow σ σ' 1 (ρ 5) (strs ((l.take k).map g)) k) (by kernel_rfl) ⟨.refl _, rfl, rfl, rfl, rfl, rfl, .nil _ _ _⟩ ?_
 rintro k ρ σ' ds hk ⟨hD, rfl, h1, h8, h9, h10, hG⟩
 rcases get_or_end l k hk with ⟨x, hx, hlt, hd⟩ | rfl
 ·simp only [go_sem, h1, h8, h9, h10, hlt, hx, ↓st_part hx]
  intro b hb
  simp only [go_sem, h1, h8, h9, h10, hlt, hx, ↓st_part hx]
  refine callB_d (hg x (mem_of_get hx)) ?_
  simp only [go_sem, str]
  refine appB_sl (appT_sl el267 tk9 by9 el267 (by decide) rfl (by decide)) (hD.upd (hD.free hb)) (hG.upd hb) rfl rfl (by omega) (fun a' σ2 hD2 hO hG2 => ?_)
  simp only [go_sem, h1, h8, h9, h10]
  refine ⟨hD2, by rw [wrap_succ _ (by omega)], ?_⟩
  rw [take_succ hx]
  simpa [strs, str] using hG2
 ·simp only [go_sem, h8, h9, h10, Nat.lt_irrefl]
  have := hG.retP hD
  simpa [slStr] using this
theorem f237 (l : List Int) (hl : Fits l.length) (fv : AV) (g : Int → ByteArray) (hg : ∀ x ∈ l, DCall Tryz.prog Γ fv [int x] (str (g x))) : PCalls Tryz.prog Γ 237 [slI l, fv] (slStr (l.map g)) := by
 refine pcalls (ok237 Γ) fun σ => ?_
 simp only [go_sem, Tryz.f237]
 refine SemC.loopK mixed l.length (fun k ρ σ' ds => Drop σ' σ ∧ ds = [] ∧ ρ 1 = fv ∧ ρ 8 = slI l ∧ ρ 9 = int l.length ∧ ρ 10 = int k ∧ Grow σ σ' 1 (ρ 5) (strs ((l.take k).map g)) k) (by kernel_rfl) ⟨.refl _, rfl, rfl, rfl, rfl, rfl, .nil _ _ _⟩ ?_
 rintro k ρ σ' ds hk ⟨hD, rfl, h1, h8, h9, h10, hG⟩
 rcases get_or_end l k hk with ⟨x, hx, hlt, hd⟩ | rfl
 ·simp only [go_sem, h1, h8, h9, h10, hlt, hx]
  refine callB_d (hg x (mem_of_get hx)) ?_
  simp only [go_sem, str]
  refine appB_sl (appT_sl el267 tk9 by9 el267 (by decide) rfl (by decide)) hD hG rfl rfl (by omega) (fun a' σ2 hD2 hO hG2 => ?_)
  simp only [go_sem, h1, h8, h9, h10]
  refine ⟨hD2, by rw [wrap_succ _ (by omega)], ?_⟩
  rw [take_succ hx]
  simpa [strs, str] using hG2
 ·simp only [go_sem, h8, h9, h10, Nat.lt_irrefl]
  have := hG.retP hD
  simpa [slStr] using this
end Go.AL
