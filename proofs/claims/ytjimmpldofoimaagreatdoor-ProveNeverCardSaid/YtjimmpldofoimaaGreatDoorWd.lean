import Derived.Test.YtjimmpldofoimaaGreatDoorAm
import Derived.Test.YtjimmpldofoimaaGreatDoorV1
import Derived.Test.YtjimmpldofoimaaGreatDoorWb
import Derived.Test.YtjimmpldofoimaaGreatDoorWc
set_option linter.unusedVariables false
set_option linter.unusedSimpArgs false
namespace Go.AL
open Go.Proofs
variable {Γ : Glob}
attribute [local irreducible] codeW opsW dopsW
def visitP (p : List St) (m : Nat) : Nat → Int → List Tm → Nat → Wk
 | 0, c, _, _ => ⟨c, 0, 0⟩
 | f + 1, c, l, i =>
  if 127 < IntKind.i64.wrap (c + 1) then ⟨IntKind.i64.wrap (c + 1), i, 30⟩
  else match p[i]? with
   | none => ⟨IntKind.i64.wrap (c + 1), 0, 0⟩
   | some s =>
    if s.leaf then
     if s.factors.length = l.length then ⟨IntKind.i64.wrap (c + 1), i, whenE (!refutesB l s.factors) 29⟩
     else ⟨IntKind.i64.wrap (c + 1), i, 2⟩
    else
     if (visitP p m f (IntKind.i64.wrap (c + 1)) (l ++ [tmLow s m]) s.k0.toNat).err = 0 then
      if (visitP p m f (visitP p m f (IntKind.i64.wrap (c + 1)) (l ++ [tmLow s m]) s.k0.toNat).many (l ++ [tmHigh s m]) s.k1.toNat).err = 0 then
       ⟨(visitP p m f (visitP p m f (IntKind.i64.wrap (c + 1)) (l ++ [tmLow s m]) s.k0.toNat).many (l ++ [tmHigh s m]) s.k1.toNat).many, i, 0⟩
      else visitP p m f (visitP p m f (IntKind.i64.wrap (c + 1)) (l ++ [tmLow s m]) s.k0.toNat).many (l ++ [tmHigh s m]) s.k1.toNat
     else visitP p m f (IntKind.i64.wrap (c + 1)) (l ++ [tmLow s m]) s.k0.toNat
theorem Drop.updBoth {σ σ' : Sig} {b : Nat} {x : Option Blk} (h : Drop σ' (AL.upd σ b x)) (y : Option Blk) : Drop (AL.upd σ' b y) (AL.upd σ b y) := fun i => by
 by_cases hi : i = b
 ·subst hi; exact .inr (by rw [upd_same, upd_same])
 ·have := h i
  rw [upd_ne _ _ _ _ hi] at this
  rw [upd_ne _ _ _ _ hi, upd_ne _ _ _ _ hi]
  exact this
theorem SemC.frz_ptr {p : Par} {ro : Option Nat} {N : Nat} {c : Code} {Q : Post} {ρ : Env} {σ : Sig} {ds : List Nat} (t b : Nat) {cs : List AV} {s k : Nat} (h : ρ t = .v (.pointer (some ⟨b, 0, none⟩))) (hb : σ b = some (.row cs s k)) (hk : SemC p ro N c Q (upd ρ t (.pp cs 0)) (ers σ b) ds) : SemC p ro N c Q ρ σ ds :=
 SemC.frz (l := [true]) (K := fun ρ σ => SemC p ro N c Q ρ σ ds) (frzB_ptr t b h hb hk) fun _ _ h => h
theorem frzB_id {l : List Bool} {ρ : Env} {σ : Sig} {K : Env → Sig → Prop} (h : K ρ σ) : frzB l ρ σ K := by
 cases l with
 | nil => exact h
 | cons x l => exact ⟨ρ, σ, Drop.refl _, fun _ => .refl _, h⟩
theorem Grow.ne0 {σ0 σ : Sig} {s n b : Nat} {a : AV} {cs : List AV} (h : Grow σ0 σ s a cs n) (hb : ¬ σ0 b = none) : ∀ s1 o m, a ≠ .own b s1 o m := by
 intro s1 o m e
 rcases h with ⟨h | h, _⟩ | ⟨b0, c, h0, h1, h2, _⟩
 ·rw [h] at e; cases e
 ·rw [h] at e; cases e
 ·rw [h0] at e; cases e
  exact hb h1
theorem callB_afz {P : Program} {Γ : Glob} {f : FuncId} {a c args args' : List AV} {σ σ' : Sig} {K : AV → Sig → Prop} (hd : Drop σ σ') (hf : FzL σ σ' (a ++ args ++ c) args') (h : ACalls P Γ f args' σ' K) : callB P Γ (.fn (.func f) a c) args σ K := ACalls.fz hd hf h
theorem f116 (p : List St) (m : Nat) (hm : Fits m) (hp : Fits p.length) (hc : ∀ s ∈ p, Fits s.factors.length) (hok : okSteps p m) : ∀ (fuel i : Nat) (l : List Tm) (c : Int) (σ : Sig) (b : Nat) (K : AV → Sig → Prop), i < fuel → i < p.length → l ≠ [] → (∀ t ∈ l, t.coeffs.length = m) → Fits (l.length + fuel) →
  σ b = some (.row [slS p, int c] 2 1) → K (.tup [int (visitP p m fuel c l i).pos, int (visitP p m fuel c l i).err]) (upd σ b (some (.row [slS p, int (visitP p m fuel c l i).many] 2 1))) →
  ACalls Tryz.prog Γ 116 [.v (.pointer (some ⟨b, 0, none⟩)), int i, slT l] σ K := by
 intro fuel
 induction fuel with
 | zero => intro i l c σ b K h; omega
 | succ f ih =>
  intro i l c σ b K hi hip hne hml hfit hb hK
  refine ACalls.retK (acalls (ok116 Γ) ?_)
  obtain ⟨s, hs⟩ : ∃ s, p[i]? = some s := ⟨p[i], List.getElem?_eq_getElem hip⟩
  by_cases h127 : 127 < IntKind.i64.wrap (c + 1)
  ·have hv : visitP p m (f + 1) c l i = ⟨IntKind.i64.wrap (c + 1), i, 30⟩ := by rw [visitP, if_pos h127]
   rw [hv] at hK
   simp only [go_sem, Tryz.f116, hb, h127]
   exact ⟨_, _, .refl _, Drop.refl _, hK⟩
  ·obtain ⟨t0, ht0⟩ : ∃ t0, l[0]? = some t0 := by
    cases l with
    | nil => exact absurd rfl hne
    | cons t l => exact ⟨t, rfl⟩
   have hm0 := hml t0 (mem_of_get ht0)
   simp only [go_sem, Tryz.f116, hb, h127, hip, hs, ↓st_part hs]
   intro b8 hb8
   obtain ⟨n1, hb8'⟩ := upd_none hb8
   have n1' : ¬ b = b8 := fun e => n1 e.symm
   cases hleaf : s.leaf with
   | true =>
    by_cases hlen : s.factors.length = l.length
    ·have hlen' : ((s.factors.length : Int) = l.length) = True := eq_true (by omega)
     have hv : visitP p m (f + 1) c l i = ⟨IntKind.i64.wrap (c + 1), i, whenE (!refutesB l s.factors) 29⟩ := by rw [visitP, if_neg h127, hs]; simp only [hleaf, if_true, hlen]
     rw [hv] at hK
     simp only [go_sem, hb, h127, hip, hs, ↓st_part hs, hleaf, n1, n1', hlen']
     refine dcallB_use (f203 l s.factors t0 ht0 (by omega) (by omega) (by rw [hm0]; exact hml) hlen) rfl ?_
     simp only [go_sem, hb, h127, hip, hs, ↓st_part hs, hleaf, n1, n1', hlen']
     refine dcallB_use (f121 _ _) rfl ?_
     simp only [go_sem, hb, h127, hip, hs, ↓st_part hs, hleaf, n1, n1', hlen']
     exact ⟨_, _, .refl _, (by repeat (first | exact Drop.refl _ | refine Drop.upd ?_ (by assumption))), hK⟩
    ·have hlen' : ((s.factors.length : Int) = l.length) = False := eq_false (by omega)
     have hv : visitP p m (f + 1) c l i = ⟨IntKind.i64.wrap (c + 1), i, 2⟩ := by rw [visitP, if_neg h127, hs]; simp only [hleaf, if_true, hlen, if_false]
     rw [hv] at hK
     simp only [go_sem, hb, h127, hip, hs, ↓st_part hs, hleaf, n1, n1', hlen']
     exact ⟨_, _, .refl _, (by repeat (first | exact Drop.refl _ | refine Drop.upd ?_ (by assumption))), hK⟩
   | false =>
    obtain ⟨v, ka, kb, hv, hvm, ha, hai, hb1, hbi⟩ := hok i s hs hleaf
    have hlt' : (0 : Int) < l.length := by have := lt_of_getElem? ht0; omega
    have hg0 : (l.flatMap tmC)[0]? = some (slI t0.coeffs) := by simpa using tm_get0 ht0
    rw [slI, hm0] at hg0
    have hsl := stA s
    simp only [go_sem, hb, h127, hip, hs, ↓st_part hs, hleaf, n1, n1', hlt', hg0]
    have h204 := f204 (Γ := Γ) s m v hm hv hvm
    simp only [stA, stC, hleaf] at h204
    refine dcallB_use h204 rfl ?_
    simp only [go_sem, hb, h127, hip, hs, ↓st_part hs, hleaf, n1, n1', hlt', hg0, ha, hb1]
    intro b9 hb9
    obtain ⟨n2, hb9u⟩ := upd_none hb9
    obtain ⟨n3, hb9'⟩ := upd_none hb9u
    have n2' : ¬ b8 = b9 := fun e => n2 e.symm
    have n3' : ¬ b = b9 := fun e => n3 e.symm
    have hlow : tmLow s m = ⟨(List.replicate m 0).set v (-1), s.bound⟩ := by simp [tmLow, hv]
    have hhigh : tmHigh s m = ⟨(List.replicate m 0).set v 1, IntKind.i64.wrap (IntKind.i64.wrap (0 - s.bound) - 1)⟩ := by simp [tmHigh, hv]
    have hml2 : ∀ (t' : Tm), t'.coeffs.length = m → ∀ t ∈ l ++ [t'], t.coeffs.length = m := fun t' h' t ht => by
     rcases List.mem_append.1 ht with h | h
     ·exact hml t h
     ·rw [List.mem_singleton.1 h]; exact h'
    have ihA := fun σ b K => ih ka (l ++ [tmLow s m]) (IntKind.i64.wrap (c + 1)) σ b K (by omega) (by omega) (by simp) (hml2 _ (by simp [tmLow])) (by simp only [List.length_append, List.length_singleton]; omega)
    generalize hA : visitP p m f (IntKind.i64.wrap (c + 1)) (l ++ [tmLow s m]) ka = A at ihA
    have ihB := fun σ b K => ih kb (l ++ [tmHigh s m]) A.many σ b K (by omega) (by omega) (by simp) (hml2 _ (by simp [tmHigh])) (by simp only [List.length_append, List.length_singleton]; omega)
    generalize hB : visitP p m f A.many (l ++ [tmHigh s m]) kb = B at ihB
    have hres : visitP p m (f + 1) c l i = if A.err = 0 then (if B.err = 0 then ⟨B.many, i, 0⟩ else B) else A := by
     rw [visitP, if_neg h127, hs]
     simp only [hleaf, Bool.false_eq_true, if_false]
     rw [ha, hb1, Int.toNat_natCast, Int.toNat_natCast, hA, hB]
    rw [hres] at hK
    rw [slT_snoc, hlow] at ihA
    rw [slT_snoc, hhigh] at ihB
    simp only [go_sem, hb, h127, hip, hs, ↓st_part hs, hleaf, n1, n1', n2, n2', n3, n3', hlt', hg0, ha, hb1]
    refine SemC.frz_ptr 9 b9 (cs := [slI ((List.replicate m 0).set v (-1)), int s.bound, slI ((List.replicate m 0).set v 1), int (IntKind.i64.wrap (IntKind.i64.wrap (0 - s.bound) - 1))]) (s := 4) (k := 1) (by simp only [go_sem]) (by simp only [go_sem, upd_at, n2, n3]) ?_
    refine SemC.loopK mixed 2 (fun k ρ σ' ds => (ds = [] ∧ ρ 0 = .v (.pointer (some ⟨b, 0, none⟩)) ∧ ρ 1 = int i ∧ ρ 2 = slT l ∧ ρ 9 = .pp [slI ((List.replicate m 0).set v (-1)), int s.bound, slI ((List.replicate m 0).set v 1), int (IntKind.i64.wrap (IntKind.i64.wrap (0 - s.bound) - 1))] 0 ∧
     ρ 10 = .fn (.func 116) [.v (.pointer (some ⟨b, 0, none⟩))] [] ∧ ρ 74 = .agg [int ka, int kb] ∧ ρ 75 = int k ∧ (1 ≤ k → A.err = 0) ∧ (2 ≤ k → B.err = 0) ∧ σ' b = some (.row [slS p, int (if k = 0 then IntKind.i64.wrap (c + 1) else if k = 1 then A.many else B.many)] 2 1)) ∧
     Drop σ' (upd σ b (some (.row [slS p, int (if k = 0 then IntKind.i64.wrap (c + 1) else if k = 1 then A.many else B.many)] 2 1)))) (by kernel_rfl) ⟨?_, ?_⟩ ?_
    ·simp only [go_sem, hb, h127, hip, hs, ↓st_part hs, hleaf, n1, n1', n2, n2', n3, n3', hlt', hg0, ha, hb1, upd_at]
     exact ⟨fun h => h.elim, fun h => h.elim⟩
    ·simp only [go_sem]
     repeat (first | exact Drop.refl _ | refine Drop.upd ?_ (by assumption) | refine Drop.ersL ?_ (by assumption))
    rintro k ρ σ' ds hk2 ⟨⟨rfl, h0, h1, h2, h9, h10, h74, h75, hA0, hB0, hs'⟩, hD⟩
    rcases (by omega : k = 0 ∨ k = 1 ∨ k = 2) with rfl | rfl | rfl
    ·simp only [go_sem] at hs' hD
     have hne0 : ¬ upd σ b (some (.row [slS p, int (IntKind.i64.wrap (c + 1))] 2 1)) b = none := by rw [upd_same]; simp
     simp only [go_sem, h0, h1, h2, h9, h10, h74, h75]
     refine frzB_id ?_
     simp only [go_sem, h0, h1, h2, h9, h10, h74, h75]
     refine callB_a (f205 l (by omega) hne hD (fun a1 σ2 hD2 hO2 hG2 => ?_)) rfl
     have e2 := (hO2 b (fun _ _ _ e => by cases e) (by rw [hs']; simp)).trans hs'
     simp only [go_sem, h0, h1, h2, h9, h10, h74, h75]
     refine appB_sl (appT_sl el32 tk94 by94 el32 (by decide) rfl (by decide)) hD2 hG2 rfl rfl (by omega) (fun a2 σ3 hD3 hO3 hG3 => ?_)
     have e3 := (hO3 b (hG2.ne0 hne0) (by rw [e2]; simp)).trans e2
     obtain ⟨σ4, hD34, hD4, hF4, hO4⟩ := hG3.fzers hD3
     have e4 := (hO4 b (hG3.ne0 hne0)).trans e3
     simp only [go_sem, h0, h1, h2, h9, h10, h74, h75]
     refine callB_afz hD34 (.cons (.refl _) (.cons (.refl _) (.cons hF4 .nil))) (ihA σ4 b _ e4 ?_)
     by_cases hX : A.err = 0
     ·simp only [go_sem, h0, h1, h2, h9, h10, h74, h75, hX]
      exact ⟨by decide, ⟨by rw [wrap_i64 _ (by decide) (by decide)]; rfl, fun _ => trivial, fun h => h.elim⟩, Drop.updBoth hD4 _⟩
     ·simp only [go_sem, h0, h1, h2, h9, h10, h74, h75, hX]
      rw [if_neg hX] at hK
      exact ⟨_, _, .refl _, Drop.updBoth hD4 _, hK⟩
    ·simp only [go_sem] at hs' hD
     have hne0 : ¬ upd σ b (some (.row [slS p, int (A.many)] 2 1)) b = none := by rw [upd_same]; simp
     simp only [go_sem, h0, h1, h2, h9, h10, h74, h75]
     refine frzB_id ?_
     simp only [go_sem, h0, h1, h2, h9, h10, h74, h75]
     refine callB_a (f205 l (by omega) hne hD (fun a1 σ2 hD2 hO2 hG2 => ?_)) rfl
     have e2 := (hO2 b (fun _ _ _ e => by cases e) (by rw [hs']; simp)).trans hs'
     simp only [go_sem, h0, h1, h2, h9, h10, h74, h75]
     refine appB_sl (appT_sl el32 tk94 by94 el32 (by decide) rfl (by decide)) hD2 hG2 rfl rfl (by omega) (fun a2 σ3 hD3 hO3 hG3 => ?_)
     have e3 := (hO3 b (hG2.ne0 hne0) (by rw [e2]; simp)).trans e2
     obtain ⟨σ4, hD34, hD4, hF4, hO4⟩ := hG3.fzers hD3
     have e4 := (hO4 b (hG3.ne0 hne0)).trans e3
     simp only [go_sem, h0, h1, h2, h9, h10, h74, h75]
     refine callB_afz hD34 (.cons (.refl _) (.cons (.refl _) (.cons hF4 .nil))) (ihB σ4 b _ e4 ?_)
     by_cases hX : B.err = 0
     ·simp only [go_sem, h0, h1, h2, h9, h10, h74, h75, hX]
      exact ⟨by decide, ⟨by rw [wrap_i64 _ (by decide) (by decide)]; rfl, fun _ => hA0 (by decide), fun _ => trivial⟩, Drop.updBoth hD4 _⟩
     ·simp only [go_sem, h0, h1, h2, h9, h10, h74, h75, hX]
      rw [if_pos (hA0 (by omega)), if_neg hX] at hK
      exact ⟨_, _, .refl _, Drop.updBoth hD4 _, hK⟩
    ·simp only [go_sem] at hs' hD
     simp only [go_sem, h0, h1, h2, h9, h10, h74, h75]
     rw [if_pos (hA0 (by omega)), if_pos (hB0 (by omega))] at hK
     exact ⟨_, _, .refl _, hD, hK⟩
end Go.AL

namespace Go.AL
theorem withinE_03 (n a b : Int) : withinE n a b = 0 ∨ withinE n a b = 3 := by unfold withinE; split <;> simp
theorem firstE_03 {α : Type} (g : α → Int) (hg : ∀ x, g x = 0 ∨ g x = 3) (l : List α) : firstE (l.map g) = whenE (!(l.all fun x => decide (g x = 0))) 3 := by
 induction l with
 | nil => simp [firstE_nil, whenE]
 | cons x l ih =>
  rw [List.map_cons, firstE_cons, List.all_cons]
  rcases hg x with h | h
  ·rw [if_pos h, ih]; simp [h]
  ·rw [if_neg (by omega), h]; simp [whenE]
theorem numbers_eq (t : Tm) : numbersE t = whenE (!inRangeB t) 3 := by
 unfold numbersE
 rw [inRangeB_eq, firstE_03 _ (fun x => withinE_03 _ _ _), firstE_cons, firstE_cons, firstE_nil]
 rcases withinE_03 t.const (-1000000000000) 1000000000000 with h | h
 ·cases hb : t.coeffs.all fun n => decide (withinE n (-1000000) 1000000 = 0) <;> simp [h, hb, whenE]
 ·cases hb : t.coeffs.all fun n => decide (withinE n (-1000000) 1000000 = 0) <;> simp [h, hb, whenE]
theorem checkTerm_eq (t : Tm) (n : Int) : checkTermE t n = checkTermR t n := by rw [checkTermE, checkTermR, numbers_eq]
theorem checkTerms_eq (l : List Tm) : checkTermsE l = checkTermsR l := by
 unfold checkTermsE checkTermsR
 simp only [checkTerm_eq]
theorem step_eq (s : St) (n vars : Int) : stepE s n vars = stepR s n vars := by
 unfold stepE stepR earlierE
 cases s.leaf with
 | true =>
  simp only [if_true]
  split
  ·rfl
  ·rw [firstE_cons, firstE_cons, firstE_nil]
   split
   ·generalize whenE _ 1 = B
    by_cases hB : B = 0 <;> simp [hB]
   ·rfl
 | false =>
  simp only [Bool.false_eq_true, if_false, firstE_cons, firstE_nil]
  generalize whenE (decide (0 < s.factors.length)) 1 = A
  generalize whenE (decide (s.var < 0) || decide (vars ≤ s.var)) 8 = B
  generalize withinE s.bound (-4294967295) 4294967295 = C
  by_cases hA : A = 0
  ·by_cases hB : B = 0
   ·by_cases hC : C = 0
    ·by_cases a : s.k0 < 0 <;> by_cases b : n ≤ s.k0 <;> by_cases c : s.k1 < 0 <;> by_cases d : n ≤ s.k1 <;> simp [hA, hB, hC, whenE, a, b, c, d]
    ·simp [hA, hB, hC]
   ·simp [hA, hB]
  ·simp [hA]
theorem steps_eq (vars : Int) (k : Nat) (l : List St) : stepsE vars k l = stepsR vars k l := by
 induction l generalizing k with
 | nil => rfl
 | cons s l ih => rw [stepsE, stepsR, step_eq, ih]
theorem checkForm_eq (l : List St) (vars : Int) : checkFormE l vars = checkFormR l vars := by
 unfold checkFormE checkFormR
 simp only [steps_eq]
theorem vars_head (l : List Tm) : ((l.head?.map fun t => (t.coeffs.length : Int)).getD 0) = (varsOf l : Int) := by cases l <;> rfl
theorem terms_ok {l : List Tm} (h : checkTermsE l = 0) : l ≠ [] ∧ l.length ≤ 40 ∧ ∀ t ∈ l, checkTermE t (varsOf l) = 0 ∧ t.coeffs.length = varsOf l ∧ varsOf l ≤ 8 := by
 unfold checkTermsE at h
 simp only [vars_head] at h
 by_cases he : firstE [whenE (decide ((l.length : Int) = 0)) 10, whenE (decide (40 < (l.length : Int))) 5] = 0
 ·rw [if_pos he] at h
  have h1 := (firstE_zero _).1 he
  have h2 := (firstE_zero _).1 h
  have a1 := (whenE_zero (by decide)).1 (h1 (whenE (decide ((l.length : Int) = 0)) 10) (by simp))
  have a2 := (whenE_zero (by decide)).1 (h1 (whenE (decide (40 < (l.length : Int))) 5) (by simp))
  refine ⟨fun e => by subst e; simp at a1, by simp at a2; omega, fun t ht => ?_⟩
  have h3 := h2 _ (List.mem_map_of_mem ht)
  refine ⟨h3, ?_⟩
  have h4 := (firstE_zero _).1 h3
  have b1 := (whenE_zero (by decide)).1 (h4 (whenE (decide (¬ (t.coeffs.length : Int) = (varsOf l : Int))) 2) (by simp))
  have b2 := h4 (withinE (varsOf l : Int) 0 8) (by simp)
  simp at b1
  unfold withinE at b2
  split at b2
  ·simp at b2
  ·omega
 ·rw [if_neg he] at h; exact absurd h he
theorem steps_zero {vars : Int} : ∀ {l : List St} {k : Nat}, stepsE vars k l = 0 → ∀ i s, l[i]? = some s → stepE s ((k + i : Nat) : Int) vars = 0
 | [], _, _, _, _, h => by simp at h
 | x :: l, k, h, i, s, hs => by
  rw [stepsE] at h
  by_cases h0 : stepE x k vars = 0
  ·rw [if_pos h0] at h
   cases i with
   | zero => simp at hs; subst hs; exact h0
   | succ i =>
    have := steps_zero h i s (by simpa using hs)
    rw [show k + (i + 1) = k + 1 + i by omega]
    exact this
  ·rw [if_neg h0] at h; exact absurd h h0
theorem form_ok {p : List St} {m : Nat} (h : checkFormE p m = 0) : p ≠ [] ∧ p.length ≤ 127 ∧ okSteps p m := by
 unfold checkFormE at h
 by_cases he : firstE [withinE (m : Int) 0 8, whenE (decide ((p.length : Int) = 0)) 10, whenE (decide (127 < (p.length : Int))) 5] = 0
 ·rw [if_pos he] at h
  have h1 := (firstE_zero _).1 he
  have a1 := (whenE_zero (by decide)).1 (h1 (whenE (decide ((p.length : Int) = 0)) 10) (by simp))
  have a2 := (whenE_zero (by decide)).1 (h1 (whenE (decide (127 < (p.length : Int))) 5) (by simp))
  refine ⟨fun e => by subst e; simp at a1, by simp at a2; omega, fun i s hs hleaf => ?_⟩
  have h2 := steps_zero h i s hs
  rw [Nat.zero_add] at h2
  unfold stepE at h2
  rw [hleaf] at h2
  simp only [Bool.false_eq_true, if_false] at h2
  have h3 := (firstE_zero _).1 h2
  have b1 := (whenE_zero (by decide)).1 (h3 (whenE (decide (s.var < 0) || decide ((m : Int) ≤ s.var)) 8) (by simp))
  have b2 := (whenE_zero (by decide)).1 (h3 (earlierE s.k0 i) (by simp))
  have b3 := (whenE_zero (by decide)).1 (h3 (earlierE s.k1 i) (by simp))
  simp at b1 b2 b3
  exact ⟨s.var.toNat, s.k0.toNat, s.k1.toNat, by omega, by omega, by omega, by omega, by omega, by omega⟩
 ·rw [if_neg he] at h; exact absurd h he
def checkP (l : List Tm) (p : List St) : Int × Int :=
 if checkTermsE l = 0 then
  if checkFormE p (varsOf l) = 0 then
   if (visitP p (varsOf l) p.length 0 l (p.length - 1)).err = 0 then (0, 0) else ((visitP p (varsOf l) p.length 0 l (p.length - 1)).pos, (visitP p (varsOf l) p.length 0 l (p.length - 1)).err)
  else (0, checkFormE p (varsOf l))
 else (0, checkTermsE l)
def checkR (l : List Tm) (p : List St) : Int × Int :=
 if checkTermsR l = 0 then
  if checkFormR p (varsOf l) = 0 then ((walkR p (varsOf l) p.length ⟨0, 0, 0⟩ l (p.length - 1)).pos, (walkR p (varsOf l) p.length ⟨0, 0, 0⟩ l (p.length - 1)).err)
  else (0, checkFormR p (varsOf l))
 else (0, checkTermsR l)
open Go.Proofs
variable {Γ : Glob}
attribute [local irreducible] codeW opsW dopsW
theorem f26 (l : List Tm) (p : List St) (hl : Fits l.length) (hc : ∀ t ∈ l, Fits t.coeffs.length) (hp : Fits p.length) (hpc : ∀ s ∈ p, Fits s.factors.length) : PCalls Tryz.prog Γ 26 [slT l, prA p] (.tup [int (checkR l p).1, int (checkR l p).2]) := by
 refine pcalls (ok26 Γ) fun σ => ?_
 simp only [go_sem, Tryz.f26]
 refine callB_use (f28 l hl hc) rfl ?_
 by_cases h1 : checkTermsR l = 0
 ·obtain ⟨hne, _, hts⟩ := terms_ok (checkTerms_eq l ▸ h1)
  obtain ⟨t0, ht0⟩ : ∃ t0, l[0]? = some t0 := by
   cases l with
   | nil => exact absurd rfl hne
   | cons t l => exact ⟨t, rfl⟩
  have hm0 := (hts t0 (mem_of_get ht0)).2.1
  have hlt' : (0 : Int) < l.length := by have := lt_of_getElem? ht0; omega
  have hg0 : (l.flatMap tmC)[0]? = some (slI t0.coeffs) := by simpa using tm_get0 ht0
  rw [slI, hm0] at hg0
  simp only [go_sem, h1, hlt', hg0]
  refine callB_use (f30 p (varsOf l) hp hpc (fun s hs n v => f126 s n v (hpc s hs))) rfl ?_
  by_cases h2 : checkFormR p (varsOf l) = 0
  ·obtain ⟨hpne, _, hok⟩ := form_ok (checkForm_eq p (varsOf l) ▸ h2)
   have hpl : 0 < p.length := List.length_pos_iff.2 hpne
   have hw : IntKind.i64.wrap ((p.length : Int) - 1) = ((p.length - 1 : Nat) : Int) := by rw [wrap_i64 _ (by omega) (by omega)]; omega
   simp only [go_sem, h1, h2, hlt', hg0, hw]
   have h119 := f119 (Γ := Γ) p (varsOf l) (by have := (hts t0 (mem_of_get ht0)).2.2; omega) hp hpc hok p.length (p.length - 1) l ⟨0, 0, 0⟩ (by omega) (by omega) hne (fun t ht => (hts t ht).2.1) (by omega)
   refine callB_use h119 rfl ?_
   simp only [go_sem, h1, h2, wkC]
   intro b hb
   simp only [go_sem, h1, h2, wkC]
   exact retP_drop (by repeat (first | exact Drop.refl _ | refine Drop.upd ?_ (by assumption))) (by rw [checkR, if_pos h1, if_pos h2])
  ·simp only [go_sem, h1, h2]
   exact retP_eq (by rw [checkR, if_pos h1, if_neg h2])
 ·simp only [go_sem, h1]
  exact retP_eq (by rw [checkR, if_neg h1])
theorem f23 (l : List Tm) (p : List St) (hl : Fits l.length) (hc : ∀ t ∈ l, Fits t.coeffs.length) (hp : Fits p.length) (hpc : ∀ s ∈ p, Fits s.factors.length) (hG : Γ 1 = some [int 0, int 0]) : PCalls Tryz.prog Γ 23 [slT l, prA p] (.tup [int (checkP l p).1, int (checkP l p).2]) := by
 refine pcalls (ok23 Γ) fun σ => ?_
 simp only [go_sem, Tryz.f23]
 refine callB_use (f27 l hl hc) rfl ?_
 by_cases h1 : checkTermsE l = 0
 ·obtain ⟨hne, _, hts⟩ := terms_ok h1
  obtain ⟨t0, ht0⟩ : ∃ t0, l[0]? = some t0 := by
   cases l with
   | nil => exact absurd rfl hne
   | cons t l => exact ⟨t, rfl⟩
  have hm0 := (hts t0 (mem_of_get ht0)).2.1
  have hlt' : (0 : Int) < l.length := by have := lt_of_getElem? ht0; omega
  have hg0 : (l.flatMap tmC)[0]? = some (slI t0.coeffs) := by simpa using tm_get0 ht0
  rw [slI, hm0] at hg0
  simp only [go_sem, h1, hlt', hg0]
  refine callB_use (f29 p (varsOf l) hp hpc hG) rfl ?_
  by_cases h2 : checkFormE p (varsOf l) = 0
  ·obtain ⟨hpne, _, hok⟩ := form_ok h2
   have hpl : 0 < p.length := List.length_pos_iff.2 hpne
   have hw : IntKind.i64.wrap ((p.length : Int) - 1) = ((p.length - 1 : Nat) : Int) := by rw [wrap_i64 _ (by omega) (by omega)]; omega
   simp only [go_sem, h1, h2, hlt', hg0, hw]
   intro b hb
   simp only [go_sem, h1, h2, hlt', hg0, hw]
   refine callB_a (f116 (Γ := Γ) p (varsOf l) (by have := (hts t0 (mem_of_get ht0)).2.2; omega) hp hpc hok p.length (p.length - 1) l 0 _ b _ (by omega) (by omega) hne (fun t ht => (hts t ht).2.1) (by omega) (by simp only [go_sem, upd_same]) ?_) rfl
   by_cases h3 : (visitP p (varsOf l) p.length 0 l (p.length - 1)).err = 0
   ·simp only [go_sem, h1, h2, h3]
    exact retP_drop (by repeat (first | exact Drop.refl _ | refine Drop.upd ?_ (by assumption))) (by rw [checkP, if_pos h1, if_pos h2, if_pos h3])
   ·simp only [go_sem, h1, h2, h3]
    exact retP_drop (by repeat (first | exact Drop.refl _ | refine Drop.upd ?_ (by assumption))) (by rw [checkP, if_pos h1, if_pos h2, if_neg h3])
  ·simp only [go_sem, h1, h2]
   exact retP_eq (by rw [checkP, if_pos h1, if_neg h2])
 ·simp only [go_sem, h1]
  exact retP_eq (by rw [checkP, if_neg h1])
def eqFB (g : Int → Int → Bool) : List Int → List Int → Bool
 | [], [] => true
 | x :: a, y :: b => g x y && eqFB g a b
 | _, _ => false
theorem eqFB_len (g : Int → Int → Bool) : ∀ (a b : List Int), a.length ≠ b.length → eqFB g a b = false
 | [], [], h => absurd rfl h
 | x :: a, y :: b, h => by rw [eqFB, eqFB_len g a b (by simpa using h), Bool.and_false]
 | [], _ :: _, _ => rfl
 | _ :: _, [], _ => rfl
theorem f260 (a b : Int) : PCalls Tryz.prog Γ 260 [int a, int b] (.v (.bool (decide (a = IntKind.i64.wrap (0 - b))))) := by
 refine pcalls (ok260 Γ) fun σ => ?_
 simp only [go_sem, Tryz.f260]
theorem f259 (a b : List Int) (hl : Fits a.length) (fv : AV) (g : Int → Int → Bool) (hg : ∀ x y, DCall Tryz.prog Γ fv [int x, int y] (.v (.bool (g x y)))) : PCalls Tryz.prog Γ 259 [slI a, slI b, fv] (.v (.bool (eqFB g a b))) := by
 refine pcalls (ok259 Γ) fun σ => ?_
 by_cases hn : a.length = b.length
 ·have hn' : ((a.length : Int) = b.length) = True := eq_true (by omega)
  simp only [go_sem, Tryz.f259, hn']
  refine SemC.loopK mixed a.length (fun k ρ σ' ds => σ' = σ ∧ ds = [] ∧ ρ 1 = slI b ∧ ρ 2 = fv ∧ ρ 15 = slI a ∧ ρ 16 = int a.length ∧ ρ 17 = int k ∧ eqFB g a b = eqFB g (a.drop k) (b.drop k)) (by kernel_rfl) ⟨rfl, rfl, rfl, rfl, rfl, rfl, rfl, rfl⟩ ?_
  rintro k ρ σ' ds hk ⟨rfl, rfl, h1, h2, h15, h16, h17, hz⟩
  rcases get_or_end a k hk with ⟨x, hx, hlt, hd⟩ | hk
  ·rcases get_or_end b k (by omega) with ⟨y, hy, hlt2, hd2⟩ | hk2
   ·rw [hd, hd2, eqFB] at hz
    simp only [go_sem, h1, h2, h15, h16, h17, hlt, hlt2, hx, hy]
    refine callB_d (hg x y) ?_
    cases hgx : g x y with
    | true =>
     simp only [go_sem, h1, h2, h15, h16, h17, hlt, hlt2, hx, hy]
     exact ⟨by rw [wrap_succ _ (by omega)], by rw [hz, hgx]; rfl⟩
    | false =>
     simp only [go_sem, h1, h2, h15, h16, h17, hlt, hlt2, hx, hy]
     exact retP_eq (by rw [hz, hgx]; rfl)
   ·omega
  ·subst hk
   simp only [go_sem, h1, h2, h15, h16, h17, Nat.lt_irrefl]
   exact retP_eq (by rw [hz, List.drop_length, show b.drop a.length = [] by rw [hn, List.drop_length]]; rfl)
 ·have hn' : ((a.length : Int) = b.length) = False := eq_false (by omega)
  simp only [go_sem, Tryz.f259, hn']
  exact retP_eq (by rw [eqFB_len g a b hn])
def oppB (a b : Tm) : Bool := decide (IntKind.i64.wrap (a.const + b.const) < 0) && eqFB (fun x y => decide (x = IntKind.i64.wrap (0 - y))) a.coeffs b.coeffs
theorem f235 (a b : Tm) (hl : Fits a.coeffs.length) : PCalls Tryz.prog Γ 235 [tmA a, tmA b] (.v (.bool (oppB a b))) := by
 refine pcalls (ok235 Γ) fun σ => ?_
 by_cases h : IntKind.i64.wrap (a.const + b.const) < 0
 ·simp only [go_sem, Tryz.f235, h]
  refine callB_use (f259 a.coeffs b.coeffs hl (.fn (.func 260) [] []) (fun x y => decide (x = IntKind.i64.wrap (0 - y))) (fun x y => dcall_of (f260 x y) rfl)) rfl ?_
  simp only [go_sem]
  exact retP_eq (by simp [oppB, h])
 ·simp only [go_sem, Tryz.f235, h]
  exact retP_eq (by simp [oppB, h])
def flatB (t : Tm) : Bool := oppB t ⟨List.replicate t.coeffs.length 0, 0⟩
theorem f233 (t : Tm) (hl : Fits t.coeffs.length) : PCalls Tryz.prog Γ 233 [tmA t] (.v (.bool (flatB t))) := by
 refine pcalls (ok233 Γ) fun σ => ?_
 have hA8 : (8 : Int) * t.coeffs.length ≤ 140737488355328 := by omega
 have hA9 : (t.coeffs.length : Int) ≤ 9223372036854775807 := by omega
 simp only [go_sem, Tryz.f233, hA8, hA9, ints_zeros]
 intro b hb
 simp only [go_sem]
 have h := f235 (Γ := Γ) t ⟨List.replicate t.coeffs.length 0, 0⟩ hl
 simp only [tmA, tmC, slI, List.length_replicate] at h
 refine callB_bor h rfl (.cons (.refl _) (.cons (.agg (.cons (put_own (c := t.coeffs.length) (by rw [upd_same, ints_zeros]) (by simp [ints_len]) rfl) (.cons (.refl _) .nil))) .nil)) ?_
 simp only [go_sem]
 exact retP_drop (by repeat (first | exact Drop.refl _ | refine Drop.upd ?_ (by assumption))) rfl
theorem f232 (l : List Tm) (hl : Fits l.length) (fv : AV) (g : Tm → Bool) (hg : ∀ x ∈ l, DCall Tryz.prog Γ fv [tmA x] (.v (.bool (g x)))) : PCalls Tryz.prog Γ 232 [slT l, fv] (int (idxE g 0 l)) := by
 refine pcalls (ok232 Γ) fun σ => ?_
 simp only [go_sem, Tryz.f232]
 refine SemC.loopK mixed l.length (fun k ρ σ' ds => σ' = σ ∧ ds = [] ∧ ρ 0 = slT l ∧ ρ 1 = fv ∧ ρ 7 = int l.length ∧ ρ 8 = int k ∧ idxE g 0 l = idxE g k (l.drop k)) (by kernel_rfl) ⟨rfl, rfl, rfl, rfl, rfl, rfl, rfl⟩ ?_
 rintro k ρ σ' ds hk ⟨rfl, rfl, h0, h1, h7, h8, hz⟩
 rcases get_or_end l k hk with ⟨x, hx, hlt, hd⟩ | hk
 ·rw [hd, idxE] at hz
  simp only [go_sem, h0, h1, h7, h8, hlt, hx, ↓tm_part hx]
  refine callB_d (hg x (mem_of_get hx)) ?_
  cases hgx : g x with
  | true =>
   simp only [go_sem, h0, h1, h7, h8, hlt, hx]
   exact retP_eq (by rw [hz, hgx]; rfl)
  | false =>
   simp only [go_sem, h0, h1, h7, h8, hlt, hx]
   exact ⟨by rw [wrap_succ _ (by omega)], by rw [hz, hgx]; rfl⟩
 ·subst hk
  simp only [go_sem, h0, h1, h7, h8, Nat.lt_irrefl]
  exact retP_eq (by rw [hz]; simp [idxE])
end Go.AL
