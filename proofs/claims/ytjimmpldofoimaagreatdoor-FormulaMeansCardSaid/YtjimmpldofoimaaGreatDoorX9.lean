/- Put. -/
import Derived.Test.YtjimmpldofoimaaGreatDoorX8
open Nat renaming reduceEqDiff → xQ, reduceAdd → xA, reduceMul → xM, reduceLeDiff → xL
open Int renaming reduceLT → xT, reduceLE → xE, reduceToNat → xN
open Go.AL renaming retPost_one → xP, retPost_oneN → xR, ers_at' → xS
set_option linter.unusedVariables false
set_option linter.unusedSimpArgs false
namespace Go.AL
open Go.Proofs
variable {Γ : Glob}
attribute [local irreducible] codeW opsW dopsW
theorem f154 (l : List Tm) (hl : Fits l.length) (fv : AV) (g : Tm → Int) (σ : Sig) (hg : ∀ x ∈ l, ∀ σ' : Sig, (∀ b, σ b ≠ none → σ' b = σ b) → ∀ K : AV → Sig → Prop, K (int (g x)) σ' → callB Tryz.prog Γ fv [tmA x] σ' K) :
    ACalls Tryz.prog Γ 154 [slT l, fv] σ fun r σ' => r = slI (l.map g) ∧ σ' = σ := by
  refine pcallsAt (ok154 Γ) ?_
  simp only [go_sem, xQ, ↓reduceIte, xA, xM, xL, xT, xE, xN, xP, xR, xS, Tryz.f154]
  refine SemC.loopK mixed l.length (fun k ρ σ' ds => Drop σ' σ ∧ ds = [] ∧ ρ 1 = fv ∧ ρ 8 = slT l ∧ ρ 9 = int l.length ∧ ρ 10 = int k ∧ Grow σ σ' 1 (ρ 5) (ints ((l.take k).map g)) k ∧ ∀ b, σ b ≠ none → σ' b = σ b) (by kernel_rfl) ⟨.refl _, rfl, rfl, rfl, rfl, rfl, .nil _ _ _, fun _ _ => rfl⟩ ?_
  rintro k ρ σ' ds hk ⟨hD, rfl, h1, h8, h9, h10, hG, hE⟩
  rcases get_or_end l k hk with ⟨x, hx, hlt, hd⟩ | rfl
  · simp only [go_sem, xQ, ↓reduceIte, xA, xM, xL, xT, xE, xN, xP, xR, xS, h1, h8, h9, h10, hlt, hx, ↓tm_part hx]
    intro b hb
    simp only [go_sem, xQ, ↓reduceIte, xA, xM, xL, xT, xE, xN, xP, xR, xS, h1, h8, h9, h10, hlt, hx, ↓tm_part hx]
    have hE2 : ∀ i, σ i ≠ none → upd σ' b (some (.row (tmC x) 2 1)) i = σ i := fun i hi => by
      rw [upd_ne]
      · exact hE i hi
      · intro e; subst e; rw [hE i hi] at hb; exact hi hb
    refine hg x (mem_of_get hx) _ hE2 _ ?_
    simp only [go_sem, xQ, ↓reduceIte, xA, xM, xL, xT, xE, xN, xP, xR, xS, h1, h8, h9, h10]
    refine appB_sl (appT_sl el191 tk29 by29 el191 (by decide) rfl (by decide)) (hD.upd (hD.free hb)) (hG.upd hb) rfl rfl (by omega) (fun a' σ2 hD2 hO hG2 => ?_)
    refine ⟨hD2, by rw [wrap_succ _ (by omega)], ?_, fun i hi => ?_⟩
    · rw [take_succ hx]
      simpa [ints, int] using hG2
    · have h2 := hE2 i hi
      rw [hO i ?_ (by show upd σ' b (some (.row (tmC x) 2 1)) i ≠ none; rw [h2]; exact hi)]
      · exact h2
      · intro s1 o m e
        rcases hG with ⟨h, _⟩ | ⟨b', c, h0, h1, h2, h3⟩
        · rcases h with h | h <;> rw [h] at e <;> cases e
        · rw [h0] at e
          cases e
          exact hi h1
  · simp only [go_sem, xQ, ↓reduceIte, xA, xM, xL, xT, xE, xN, xP, xR, xS, h8, h9, h10, Nat.lt_irrefl]
    have := hG.retP hD
    simpa [slI] using this
theorem f155 (t : Tm) (n : Int) (hl : Fits t.coeffs.length) (b7 : Nat) (σ : Sig) (h7 : σ b7 = some (.row [int n] 1 1)) : ACalls Tryz.prog Γ 155 [tmA t, .v (.pointer (some ⟨b7, 0, none⟩))] σ fun r σ' => r = int (checkTermE t n) ∧ σ' = σ := by
  refine pcallsAt (ok155 Γ) ?_
  simp only [go_sem, xQ, ↓reduceIte, xA, xM, xL, xT, xE, xN, xP, xR, xS, Tryz.f155, h7]
  refine callB_use (f80 t n hl) rfl ?_
  simp only [go_sem, xQ, ↓reduceIte, xA, xM, xL, xT, xE, xN, xP, xR, xS]
/-- Terms put into a sum, one by one; none if a number is too large. -/
def putT (terms : List Tm) : List Int → Nat → Tm → Option Tm
  | [], _, t => some t
  | c :: cs, i, t => match terms[i]? with
    | none => none
    | some x => if largeE (plusT t x c) = 0 then putT terms cs (i + 1) (plusT t x c) else none
def putNd (terms : List Tm) (vars : Nat) (n : Nd) : Option Nd :=
  if n.kind ≤ 1 then (putT terms n.term.coeffs 0 ⟨List.replicate vars 0, n.term.const⟩).map fun t => ⟨n.kind, t, (shiftN 0 n).kids⟩ else some (shiftN 0 n)
def putNs (terms : List Tm) (vars : Nat) : List Nd → List Nd → Option (List Nd)
  | [], acc => some acc
  | n :: l, acc => match putNd terms vars n with
    | none => none
    | some x => putNs terms vars l (acc ++ [x])
def varsT (terms : List Tm) : Nat := match terms with
  | [] => 0
  | t :: _ => t.coeffs.length
def putE1 (f : Fm) (terms : List Tm) : Int := firstE [checkE f, whenE (!decide ((terms.length : Int) = f.vars)) 2]
def putE2 (terms : List Tm) : Int := firstE (terms.map fun t => checkTermE t (varsT terms))
def putR (f : Fm) (terms : List Tm) : Fm × Int :=
  if putE1 f terms = 0 then
    if putE2 terms = 0 then (match putNs terms (varsT terms) f.nodes [] with | some l => (⟨varsT terms, l⟩, 0) | none => (fm0, 4))
    else (fm0, putE2 terms)
  else (fm0, putE1 f terms)
theorem putT_len {terms : List Tm} {m : Nat} : ∀ (cs : List Int) (i : Nat) (t r : Tm), t.coeffs.length = m → putT terms cs i t = some r → r.coeffs.length = m
  | [], _, t, r, h, he => by cases he; exact h
  | c :: cs, i, t, r, h, he => by
    rw [putT] at he
    split at he
    · cases he
    · split at he
      · exact putT_len cs (i + 1) _ r (by rw [plusT]; simp only [plusC_len]; exact h) he
      · cases he
theorem large_04 (t : Tm) : largeE t = 0 ∨ largeE t = 4 := by unfold largeE whenE; split <;> simp
theorem vars_terms {terms : List Tm} (h : putE2 terms = 0) : varsT terms ≤ 8 ∧ ∀ t ∈ terms, t.coeffs.length = varsT terms := by
  have h1 := (firstE_zero _).1 h
  have h2 : ∀ t ∈ terms, checkTermE t (varsT terms) = 0 := fun t ht => h1 _ (List.mem_map_of_mem (f := fun t => checkTermE t (varsT terms)) ht)
  refine ⟨?_, fun t ht => by have := term_len (h2 t ht); omega⟩
  cases terms with
  | nil => exact Nat.zero_le _
  | cons t l =>
    have := (firstE_zero _).1 (h2 t (by simp)) (withinE (varsT (t :: l)) 0 8) (by simp)
    unfold withinE at this
    split at this
    · cases this
    · omega
theorem ers_upd (σ : Sig) (r : Nat) : ers σ r = upd σ r none := by funext i; rw [xS]; rfl
theorem Grow.neO {σ0 σ : Sig} {s n b : Nat} {a : AV} {cs : List AV} {o : Obj} (h : Grow σ0 σ s a cs n) (hb : σ b = some (.obj o)) : ∀ s1 o m, a ≠ .own b s1 o m := fun s1 o m e => by
  rcases h with ⟨h, _⟩ | ⟨b', c, h0, h1, h2, h3⟩
  · rcases h with h | h <;> rw [h] at e <;> cases e
  · rw [h0] at e
    cases e
    rw [h2] at hb
    cases hb
set_option maxHeartbeats 2000000 in
set_option maxRecDepth 20000 in
theorem f53 (hG' : Γ 0 = some sortsT) (f : Fm) (terms : List Tm) (hl : Fits f.nodes.length) (hc : ∀ n ∈ f.nodes, NdFit n) (htl : Fits terms.length) (htc : ∀ t ∈ terms, Fits t.coeffs.length) : PCalls Tryz.prog Γ 53 [fmA f, slT terms] (.tup [fmA (putR f terms).1, int (putR f terms).2]) := by
  refine pcalls (ok53 Γ) fun σ => ?_
  simp only [go_sem, xQ, ↓reduceIte, xA, xM, xL, xT, xE, xN, xP, xR, xS, Tryz.f53]
  intro b4 hb4
  simp only [go_sem, xQ, ↓reduceIte, xA, xM, xL, xT, xE, xN, xP, xR, xS]
  intro b5 hb5
  obtain ⟨n54, hb5⟩ := un hb5
  have n54' : ¬ b4 = b5 := fun e => n54 e.symm
  simp only [go_sem, xQ, ↓reduceIte, xA, xM, xL, xT, xE, xN, xP, xR, xS, n54, n54']
  refine dcallB_use (f47 hG' f hl hc) rfl ?_
  simp only [go_sem, xQ, ↓reduceIte, xA, xM, xL, xT, xE, xN, xP, xR, xS]
  refine callB_use (f144 _ _) rfl ?_
  simp only [go_sem, xQ, ↓reduceIte, xA, xM, xL, xT, xE, xN, xP, xR, xS]
  refine callB_use (f135 [_, _] (by simp)) rfl ?_
  have e40 : ((4 : Int) = 0) = False := eq_false (by decide)
  by_cases h : putE1 f terms = 0
  · have h' := h
    unfold putE1 at h'
    have hE1 := (firstE_zero _).1 h'
    obtain ⟨hne, hl200, hv0, hv8, hok⟩ := check_ok (hE1 (checkE f) (by simp))
    have htn : (terms.length : Int) = f.vars := by
      have := (whenE_zero (by decide)).1 (hE1 (whenE (!decide ((terms.length : Int) = f.vars)) 2) (by simp))
      simpa using this
    simp only [go_sem, xQ, ↓reduceIte, xA, xM, xL, xT, xE, xN, xP, xR, xS, h', n54, n54']
    intro b7 hb7
    obtain ⟨n75, hb7⟩ := un hb7
    obtain ⟨n74, hb7⟩ := un hb7
    have n75' : ¬ b5 = b7 := fun e => n75 e.symm
    have n74' : ¬ b4 = b7 := fun e => n74 e.symm
    by_cases ht0 : (0 : Int) < terms.length
    · obtain ⟨t0, htq, hvq⟩ : ∃ t0, terms[0]? = some t0 ∧ varsT terms = t0.coeffs.length := by
        cases terms with
        | nil => simp at ht0
        | cons t l => exact ⟨t, rfl, rfl⟩
      have hg0 := tm_get0 htq
      rw [Nat.zero_mul] at hg0
      simp only [go_sem, xQ, ↓reduceIte, xA, xM, xL, xT, xE, xN, xP, xR, xS, h', n54, n54', n75, n75', n74, n74', ht0, hg0]
      refine callB_a (ACalls.mono (f154 terms htl _ (fun t => checkTermE t (varsT terms)) _ ?_) (fun r σ2 hrs => ?_)) rfl
      · intro x hx σ2 hext K hK
        exact callB_a (ACalls.mono (f155 x (varsT terms) (htc x hx) b7 σ2 (by rw [hext b7 (by simp [upd])]; simp [upd, int, hvq])) (fun r σ3 ⟨hr, hs⟩ => by subst hr; subst hs; exact hK)) rfl
      obtain ⟨hr, hs⟩ := hrs
      subst hr
      subst hs
      simp only [go_sem, xQ, ↓reduceIte, xA, xM, xL, xT, xE, xN, xP, xR, xS, n54, n54', n75, n75', n74, n74']
      refine callB_use (f135 _ (by simpa using htl)) rfl ?_
      by_cases h2 : putE2 terms = 0
      · obtain ⟨hv8', hvt⟩ := vars_terms h2
        have h2' := h2
        unfold putE2 at h2'
        simp only [go_sem, xQ, ↓reduceIte, xA, xM, xL, xT, xE, xN, xP, xR, xS, h2', n54, n54', n75, n75', n74, n74']
        have hr0 : putR f terms = (match putNs terms (varsT terms) f.nodes [] with | some l => (⟨varsT terms, l⟩, 0) | none => (fm0, 4)) := by rw [putR, if_pos h, if_pos h2]
        intro b9 hb9
        obtain ⟨n97, hb9⟩ := un hb9
        obtain ⟨n95, hb9⟩ := un hb9
        obtain ⟨n94, hb9⟩ := un hb9
        have n97' : ¬ b7 = b9 := fun e => n97 e.symm
        have n95' : ¬ b5 = b9 := fun e => n95 e.symm
        have n94' : ¬ b4 = b9 := fun e => n94 e.symm
        simp only [go_sem, xQ, ↓reduceIte, xA, xM, xL, xT, xE, xN, xP, xR, xS, n54, n54', n75, n75', n74, n74', n97, n97', n95, n95', n94, n94']
        refine callB_use (f137 f) rfl ?_
        simp only [go_sem, xQ, ↓reduceIte, xA, xM, xL, xT, xE, xN, xP, xR, xS]
        have hDs : Drop (upd (upd (upd (upd σ b4 (some (.row [int 0, .v (.slice none 0 0)] 2 1))) b5 (some (.row [int 0] 1 1))) b7 (some (.row [int (varsT terms)] 1 1))) b9 (some (.row [int (varsT terms), .v (.slice none 0 0)] 2 1))) σ := by repeat (first | exact Drop.refl _ | assumption | refine Drop.upd ?_ (by assumption))
        simp only [hvq, int, Int.natCast_zero, Int.cast_ofNat_Int] at hDs
        refine SemC.rangeL (xs := nodesX f.nodes) (D := noD) (pre := fun _ => True) (f := 220) (first := []) (captured := [.pp (fmC f) 0]) mixed (by simp only [go_sem, xQ, ↓reduceIte, xA, xM, xL, xT, xE, xN, xP, xR, xS]) (f220 f hl) (by decide) (by kernel_rfl) (by kernel_rfl) noD_ctl (fun _ _ _ _ _ _ => trivial)
          (fun k σ' => ∃ acc a, (putNs terms (varsT terms) f.nodes [] = putNs terms (varsT terms) (f.nodes.drop k) acc ∧ acc.length = k) ∧ σ' b4 = some (.row [int 0, .v (.slice none 0 0)] 2 1) ∧ σ' b5 = some (.row [int 0] 1 1) ∧ σ' b7 = some (.row [int (varsT terms)] 1 1) ∧ σ' b9 = some (.row [int (varsT terms), a] 2 1) ∧ Grow σ σ' 4 a (acc.flatMap ndC) k ∧ Drop σ' σ)
          (fun e σ' => (e = .ret ∧ putNs terms (varsT terms) f.nodes [] = none) ∧ σ' b4 = some (.row [int 0, .v (.slice none 0 0)] 2 1) ∧ σ' b5 = some (.row [int 4] 1 1) ∧ Drop σ' σ)
          (fun k x ρ1 σ1 => ∃ n b10 acc a, (f.nodes[k]? = some n ∧ ρ1 2 = .pp (fmC f) 0 ∧ ρ1 3 = .pp [slT terms] 0 ∧ ρ1 4 = .v (.pointer (some ⟨b4, 0, none⟩)) ∧ ρ1 5 = .v (.pointer (some ⟨b5, 0, none⟩)) ∧ ρ1 7 = .v (.pointer (some ⟨b7, 0, none⟩)) ∧ ρ1 9 = .v (.pointer (some ⟨b9, 0, none⟩)) ∧ ρ1 10 = .v (.pointer (some ⟨b10, 0, none⟩)) ∧ putNs terms (varsT terms) f.nodes [] = putNs terms (varsT terms) (f.nodes.drop k) acc ∧ acc.length = k) ∧ σ1 b10 = some (.row (atC n k) 5 1) ∧ σ1 b4 = some (.row [int 0, .v (.slice none 0 0)] 2 1) ∧ σ1 b5 = some (.row [int 0] 1 1) ∧ σ1 b7 = some (.row [int (varsT terms)] 1 1) ∧ σ1 b9 = some (.row [int (varsT terms), a] 2 1) ∧ Grow σ σ1 4 a (acc.flatMap ndC) k ∧ Drop σ1 σ)
          (by (intros; repeat' (first | exact Closed.row (fun h => h) | exact Closed.grow (fun _ h => h) | exact Closed.drop hDs (fun _ _ _ h => h) | exact Closed.map (fun h => h) | exact Closed.const _ | refine Closed.ex fun _ => ?_ | refine Closed.and ?_ ?_))) (by (intros; repeat' (first | exact Closed.row (fun h => h) | exact Closed.grow (fun _ h => h) | exact Closed.drop hDs (fun _ _ _ h => h) | exact Closed.map (fun h => h) | exact Closed.const _ | refine Closed.ex fun _ => ?_ | refine Closed.and ?_ ?_))) (by (intros; repeat' (first | exact Closed.row (fun h => h) | exact Closed.grow (fun _ h => h) | exact Closed.drop hDs (fun _ _ _ h => h) | exact Closed.map (fun h => h) | exact Closed.const _ | refine Closed.ex fun _ => ?_ | refine Closed.and ?_ ?_)))
          ?_ ?_ ?_ ?_ ?_
        · refine ⟨[], _, ⟨rfl, rfl⟩, ?_, ?_, ?_, ?_, .nil _ _ _, ?_⟩
          · simp [upd, n54, n54', n75, n75', n74, n74', n97, n97', n95, n95', n94, n94', int]
          · simp [upd, n54, n54', n75, n75', n74, n74', n97, n97', n95, n95', n94, n94', int]
          · simp [upd, n54, n54', n75, n75', n74, n74', n97, n97', n95, n95', n94, n94', int, hvq]
          · simp [upd, n54, n54', n75, n75', n74, n74', n97, n97', n95, n95', n94, n94', int, hvq]
          · repeat (first | exact Drop.refl _ | assumption | refine Drop.upd ?_ (by assumption))
        · rintro k x E σ' l hE hx ⟨acc, a, ⟨hz, hacc⟩, q4, q5, q7, q9, hG, hD⟩
          obtain ⟨n, hn, rfl⟩ := nodesX_get hx
          have e2 : E 2 = .pp (fmC f) 0 := by rw [hE 2 (by decide)]; simp only [go_sem, xQ, ↓reduceIte, xA, xM, xL, xT, xE, xN, xP, xR, xS]
          have e3 : E 3 = .pp [slT terms] 0 := by rw [hE 3 (by decide)]; simp only [go_sem, xQ, ↓reduceIte, xA, xM, xL, xT, xE, xN, xP, xR, xS]
          have e4 : E 4 = .v (.pointer (some ⟨b4, 0, none⟩)) := by rw [hE 4 (by decide)]; simp only [go_sem, xQ, ↓reduceIte, xA, xM, xL, xT, xE, xN, xP, xR, xS]
          have e5 : E 5 = .v (.pointer (some ⟨b5, 0, none⟩)) := by rw [hE 5 (by decide)]; simp only [go_sem, xQ, ↓reduceIte, xA, xM, xL, xT, xE, xN, xP, xR, xS]
          have e7 : E 7 = .v (.pointer (some ⟨b7, 0, none⟩)) := by rw [hE 7 (by decide)]; simp only [go_sem, xQ, ↓reduceIte, xA, xM, xL, xT, xE, xN, xP, xR, xS]
          have e9 : E 9 = .v (.pointer (some ⟨b9, 0, none⟩)) := by rw [hE 9 (by decide)]; simp only [go_sem, xQ, ↓reduceIte, xA, xM, xL, xT, xE, xN, xP, xR, xS]
          simp only [go_sem, xQ, ↓reduceIte, xA, xM, xL, xT, xE, xN, xP, xR, xS, e2, e3, e4, e5, e7, e9]
          intro b10 hb10
          have m4 : ¬ b4 = b10 := nn hb10 q4
          have m5 : ¬ b5 = b10 := nn hb10 q5
          have m7 : ¬ b7 = b10 := nn hb10 q7
          have m9 : ¬ b9 = b10 := nn hb10 q9
          simp only [go_sem, xQ, ↓reduceIte, xA, xM, xL, xT, xE, xN, xP, xR, xS, e2, e3, e4, e5, e7, e9, m4, m5, m7, m9]
          refine ⟨(Keep.refl _ _).upd (keep_none hb10), n, b10, acc, a, ?_⟩
          simp only [go_sem, xQ, ↓reduceIte, xA, xM, xL, xT, xE, xN, xP, xR, xS, e2, e3, e4, e5, e7, e9, m4, m5, m7, m9, hn, q4, q5, q7, q9]
          exact ⟨⟨hz, hacc⟩, (hG.updF hb10), hD.upd (hD.free hb10)⟩
        · rintro k x ρ1 σ' l hx ⟨n, b10, acc, a, ⟨hn, h2', h3, h4, h5, h7, h9, h10, hz, hacc⟩, q10, q4, q5, q7, q9, hG, hD⟩
          have hcn := hc n (mem_of_get hn)
          have hkn := hok k n hn
          simp only [go_sem, xQ, ↓reduceIte, xA, xM, xL, xT, xE, xN, xP, xR, xS, h2', h3, h4, h5, h7, h9, h10, q10, q4, q5, q7, q9]
          refine callB_use (f156 n 0 hcn) rfl ?_
          simp only [go_sem, xQ, ↓reduceIte, xA, xM, xL, xT, xE, xN, xP, xR, xS]
          intro b11 hb11
          have n4_11 : ¬ b4 = b11 := nn hb11 q4
          have n5_11 : ¬ b5 = b11 := nn hb11 q5
          have n7_11 : ¬ b7 = b11 := nn hb11 q7
          have n9_11 : ¬ b9 = b11 := nn hb11 q9
          have n10_11 : ¬ b10 = b11 := nn hb11 q10
          have n11_4 : ¬ b11 = b4 := fun e => n4_11 e.symm
          have n11_5 : ¬ b11 = b5 := fun e => n5_11 e.symm
          have n11_7 : ¬ b11 = b7 := fun e => n7_11 e.symm
          have n11_9 : ¬ b11 = b9 := fun e => n9_11 e.symm
          have n11_10 : ¬ b11 = b10 := fun e => n10_11 e.symm
          have h11 : True := trivial
          simp only [go_sem, xQ, ↓reduceIte, xA, xM, xL, xT, xE, xN, xP, xR, xS, h2', h3, h4, h5, h7, h9, h10, h11, q10, q4, q5, q7, q9, n11_4, n11_5, n11_7, n11_9, n11_10, n4_11, n5_11, n7_11, n9_11, n10_11]
          have hcases : n.kind = 0 ∨ n.kind = 1 ∨ n.kind = 2 ∨ n.kind = 3 ∨ n.kind = 4 := by have := hkn.lo; have := hkn.hi; omega
          rcases hcases with hk | hk | hk | hk | hk
          · have ht1 := (hkn.term (by omega)).2.1
            simp only [go_sem, xQ, ↓reduceIte, xA, xM, xL, xT, xE, xN, xP, xR, xS, h2', h3, h4, h5, h7, h9, h10, h11, q10, q4, q5, q7, q9, n11_4, n11_5, n11_7, n11_9, n11_10, n4_11, n5_11, n7_11, n9_11, n10_11, hk, hG', sortsT]
            refine callB_use (f157 (varsT terms) n.term.const (by omega)) rfl ?_
            simp only [go_sem, xQ, ↓reduceIte, xA, xM, xL, xT, xE, xN, xP, xR, xS, h2', h3, h4, h5, h7, h9, h10, h11, q10, q4, q5, q7, q9, n11_4, n11_5, n11_7, n11_9, n11_10, n4_11, n5_11, n7_11, n9_11, n10_11]
            refine SemC.loopK mixed n.term.coeffs.length (fun j ρ σ2 ds => (ds = [] ∧ ρ 2 = .pp (fmC f) 0 ∧ ρ 3 = .pp [slT terms] 0 ∧ ρ 4 = .v (.pointer (some ⟨b4, 0, none⟩)) ∧ ρ 5 = .v (.pointer (some ⟨b5, 0, none⟩)) ∧ ρ 7 = .v (.pointer (some ⟨b7, 0, none⟩)) ∧ ρ 9 = .v (.pointer (some ⟨b9, 0, none⟩)) ∧ ρ 10 = .v (.pointer (some ⟨b10, 0, none⟩)) ∧ ρ 11 = .v (.pointer (some ⟨b11, 0, none⟩)) ∧ ρ 69 = slI n.term.coeffs ∧ ρ 70 = int n.term.coeffs.length ∧ ρ 71 = int j) ∧ ∃ t, t.coeffs.length = varsT terms ∧ putT terms n.term.coeffs 0 ⟨List.replicate (varsT terms) 0, n.term.const⟩ = putT terms (n.term.coeffs.drop j) j t ∧ σ2 = upd σ' b11 (some (.row [int n.kind, slI t.coeffs, int t.const, slI (shiftN 0 n).kids] 4 1))) (by kernel_rfl) ⟨by simp only [go_sem, xQ, ↓reduceIte, xA, xM, xL, xT, xE, xN, xP, xR, xS, h2', h3, h4, h5, h7, h9, h10, h11, q10, q4, q5, q7, q9, n11_4, n11_5, n11_7, n11_9, n11_10, n4_11, n5_11, n7_11, n9_11, n10_11], ⟨List.replicate (varsT terms) 0, n.term.const⟩, List.length_replicate, rfl, by simp [upd_upd, putL, hk, slI, int, shiftN]⟩ ?_
            rintro j ρ σ2 ds hj ⟨⟨rfl, h2', h3, h4, h5, h7, h9, h10, h11, h69, h70, h71⟩, t, htl', hz', rfl⟩
            rcases get_or_end n.term.coeffs j hj with ⟨x, hx, hlt, hd⟩ | hjj
            · obtain ⟨y, hy⟩ : ∃ y, terms[j]? = some y := ⟨terms[j]'(by have := lt_of_getElem? hx; omega), List.getElem?_eq_getElem _⟩
              have hyl := hvt y (mem_of_get hy)
              rw [hd, putT, hy] at hz'
              simp only [go_sem, xQ, ↓reduceIte, xA, xM, xL, xT, xE, xN, xP, xR, xS, h2', h3, h4, h5, h7, h9, h10, h11, q10, q4, q5, q7, q9, n11_4, n11_5, n11_7, n11_9, n11_10, n4_11, n5_11, n7_11, n9_11, n10_11, h69, h70, h71, hlt, hx, ↓tm_part hy, (lt_of_getElem? hy)]
              refine callB_use (f158 t y x (by omega) (by omega)) rfl ?_
              simp only [go_sem, xQ, ↓reduceIte, xA, xM, xL, xT, xE, xN, xP, xR, xS, h2', h3, h4, h5, h7, h9, h10, h11, q10, q4, q5, q7, q9, n11_4, n11_5, n11_7, n11_9, n11_10, n4_11, n5_11, n7_11, n9_11, n10_11, h69, h70, h71]
              simp only [go_sem, xQ, ↓reduceIte, xA, xM, xL, xT, xE, xN, xP, xR, xS, upd_upd, putL]
              refine callB_use (f159 (plusT t y x) (by rw [plusT]; simp only [plusC_len]; omega)) rfl ?_
              simp only [go_sem, xQ, ↓reduceIte, xA, xM, xL, xT, xE, xN, xP, xR, xS, h2', h3, h4, h5, h7, h9, h10, h11, q10, q4, q5, q7, q9, n11_4, n11_5, n11_7, n11_9, n11_10, n4_11, n5_11, n7_11, n9_11, n10_11, h69, h70, h71, upd_upd, putL]
              have hpl : (plusT t y x).coeffs.length = varsT terms := by rw [plusT]; simp only [plusC_len]; omega
              by_cases hL : largeE (plusT t y x) = 0
              · simp only [hL, if_true] at hz'
                simp only [go_sem, xQ, ↓reduceIte, xA, xM, xL, xT, xE, xN, xP, xR, xS, h2', h3, h4, h5, h7, h9, h10, h11, q10, q4, q5, q7, q9, n11_4, n11_5, n11_7, n11_9, n11_10, n4_11, n5_11, n7_11, n9_11, n10_11, hL, h69, h70, h71]
                exact ⟨lt_of_getElem? hx, by rw [wrap_succ _ (by have := lt_of_getElem? hx; omega)], plusT t y x, hpl, hz', rfl⟩
              · have hL4 : largeE (plusT t y x) = 4 := by rcases large_04 (plusT t y x) with h | h; exact absurd h hL; exact h
                simp only [hL, if_false] at hz'
                simp only [go_sem, xQ, ↓reduceIte, xA, xM, xL, xT, xE, xN, xP, xR, xS, h2', h3, h4, h5, h7, h9, h10, h11, q10, q4, q5, q7, q9, n11_4, n11_5, n11_7, n11_9, n11_10, n4_11, n5_11, n7_11, n9_11, n10_11, hL4, h69, h70, h71, e40, n54, n54']
                rw [drop_of_get hn, putNs, putNd, if_pos (by omega), hz'] at hz
                exact ⟨(((Keep.refl _ _).upd (keep_none hb11)).upd (keep_row (cs := [int 0, .v (.slice none 0 0)]) (s := 2) (c := 1) (by simp [upd, n4_11, n11_4, q4]) (fun h => h))).upd (keep_row (cs := [int 0]) (s := 1) (c := 1) (by simp [upd, n5_11, n11_5, n54, n54', q5]) (fun h => h)), hz, ((hD.upd (hD.free hb11)).upd hb4).upd hb5⟩
            · subst hjj
              rw [List.drop_length, putT] at hz'
              simp only [go_sem, xQ, ↓reduceIte, xA, xM, xL, xT, xE, xN, xP, xR, xS, h2', h3, h4, h5, h7, h9, h10, h11, q10, q4, q5, q7, q9, n11_4, n11_5, n11_7, n11_9, n11_10, n4_11, n5_11, n7_11, n9_11, n10_11, h69, h70, h71, Nat.lt_irrefl]
              simp only [go_sem, xQ, ↓reduceIte, xA, xM, xL, xT, xE, xN, xP, xR, xS, h2', h3, h4, h5, h7, h9, h10, h11, q10, q4, q5, q7, q9, n11_4, n11_5, n11_7, n11_9, n11_10, n4_11, n5_11, n7_11, n9_11, n10_11]
              refine appB_sl (appT_sl el64 tk216 by216 el64 (by decide) rfl (by decide)) ((hD.upd (hD.free hb11))) (hG.upd hb11) rfl rfl (by have := lt_of_getElem? hn; omega) (fun a' σ3 hD3 hO3 hG3 => ?_)
              have w4 : σ3 b4 = some (.row [int 0, .v (.slice none 0 0)] 2 1) := by rw [hO3 b4 (hG.neS q4 (by decide)) (by simp [upd, n4_11, n11_4, q4])]; simp [upd, n4_11, n11_4, q4]
              have w5 : σ3 b5 = some (.row [int 0] 1 1) := by rw [hO3 b5 (hG.neS q5 (by decide)) (by simp [upd, n5_11, n11_5, q5])]; simp [upd, n5_11, n11_5, q5]
              have w7 : σ3 b7 = some (.row [int (varsT terms)] 1 1) := by rw [hO3 b7 (hG.neS q7 (by decide)) (by simp [upd, n7_11, n11_7, q7])]; simp [upd, n7_11, n11_7, q7]
              have w9 : σ3 b9 = some (.row [int (varsT terms), a] 2 1) := by rw [hO3 b9 (hG.neS q9 (by decide)) (by simp [upd, n9_11, n11_9, q9])]; simp [upd, n9_11, n11_9, q9]
              have hc2 := hG3.cellsX
              have ho2 := hG3.oneX
              simp only [go_sem, xQ, ↓reduceIte, xA, xM, xL, xT, xE, xN, xP, xR, xS, h2', h3, h4, h5, h7, h9, h10, h11, q10, q4, q5, q7, q9, n11_4, n11_5, n11_7, n11_9, n11_10, n4_11, n5_11, n7_11, n9_11, n10_11, w4, w5, w7, w9, hc2, ho2, n94, n94', n95, n95', n97, n97']
              rw [drop_of_get hn, putNs, putNd, if_pos (by omega), hz', Option.map_some] at hz
              refine ⟨((Keep.refl _ _).upd (keep_none hb11)).trans ((keep_others hO3 (hG.upd hb11)).trans ((Keep.refl _ _).upd (keep_row w9 (fun h => h)))), acc ++ [⟨n.kind, t, (shiftN 0 n).kids⟩], a', ⟨hz, by simp [hacc]⟩, by simp, ?_, ?_⟩
              · have := hG3.updW (hG3.neS w9 (by decide)) (some (.row [int (varsT terms), a'] 2 1))
                simpa [ndC, slI, int, ints] using this
              · exact hD3.upd hb9
          · have ht1 := (hkn.term (by omega)).2.1
            simp only [go_sem, xQ, ↓reduceIte, xA, xM, xL, xT, xE, xN, xP, xR, xS, h2', h3, h4, h5, h7, h9, h10, h11, q10, q4, q5, q7, q9, n11_4, n11_5, n11_7, n11_9, n11_10, n4_11, n5_11, n7_11, n9_11, n10_11, hk, hG', sortsT]
            refine callB_use (f157 (varsT terms) n.term.const (by omega)) rfl ?_
            simp only [go_sem, xQ, ↓reduceIte, xA, xM, xL, xT, xE, xN, xP, xR, xS, h2', h3, h4, h5, h7, h9, h10, h11, q10, q4, q5, q7, q9, n11_4, n11_5, n11_7, n11_9, n11_10, n4_11, n5_11, n7_11, n9_11, n10_11]
            refine SemC.loopK mixed n.term.coeffs.length (fun j ρ σ2 ds => (ds = [] ∧ ρ 2 = .pp (fmC f) 0 ∧ ρ 3 = .pp [slT terms] 0 ∧ ρ 4 = .v (.pointer (some ⟨b4, 0, none⟩)) ∧ ρ 5 = .v (.pointer (some ⟨b5, 0, none⟩)) ∧ ρ 7 = .v (.pointer (some ⟨b7, 0, none⟩)) ∧ ρ 9 = .v (.pointer (some ⟨b9, 0, none⟩)) ∧ ρ 10 = .v (.pointer (some ⟨b10, 0, none⟩)) ∧ ρ 11 = .v (.pointer (some ⟨b11, 0, none⟩)) ∧ ρ 69 = slI n.term.coeffs ∧ ρ 70 = int n.term.coeffs.length ∧ ρ 71 = int j) ∧ ∃ t, t.coeffs.length = varsT terms ∧ putT terms n.term.coeffs 0 ⟨List.replicate (varsT terms) 0, n.term.const⟩ = putT terms (n.term.coeffs.drop j) j t ∧ σ2 = upd σ' b11 (some (.row [int n.kind, slI t.coeffs, int t.const, slI (shiftN 0 n).kids] 4 1))) (by kernel_rfl) ⟨by simp only [go_sem, xQ, ↓reduceIte, xA, xM, xL, xT, xE, xN, xP, xR, xS, h2', h3, h4, h5, h7, h9, h10, h11, q10, q4, q5, q7, q9, n11_4, n11_5, n11_7, n11_9, n11_10, n4_11, n5_11, n7_11, n9_11, n10_11], ⟨List.replicate (varsT terms) 0, n.term.const⟩, List.length_replicate, rfl, by simp [upd_upd, putL, hk, slI, int, shiftN]⟩ ?_
            rintro j ρ σ2 ds hj ⟨⟨rfl, h2', h3, h4, h5, h7, h9, h10, h11, h69, h70, h71⟩, t, htl', hz', rfl⟩
            rcases get_or_end n.term.coeffs j hj with ⟨x, hx, hlt, hd⟩ | hjj
            · obtain ⟨y, hy⟩ : ∃ y, terms[j]? = some y := ⟨terms[j]'(by have := lt_of_getElem? hx; omega), List.getElem?_eq_getElem _⟩
              have hyl := hvt y (mem_of_get hy)
              rw [hd, putT, hy] at hz'
              simp only [go_sem, xQ, ↓reduceIte, xA, xM, xL, xT, xE, xN, xP, xR, xS, h2', h3, h4, h5, h7, h9, h10, h11, q10, q4, q5, q7, q9, n11_4, n11_5, n11_7, n11_9, n11_10, n4_11, n5_11, n7_11, n9_11, n10_11, h69, h70, h71, hlt, hx, ↓tm_part hy, (lt_of_getElem? hy)]
              refine callB_use (f158 t y x (by omega) (by omega)) rfl ?_
              simp only [go_sem, xQ, ↓reduceIte, xA, xM, xL, xT, xE, xN, xP, xR, xS, h2', h3, h4, h5, h7, h9, h10, h11, q10, q4, q5, q7, q9, n11_4, n11_5, n11_7, n11_9, n11_10, n4_11, n5_11, n7_11, n9_11, n10_11, h69, h70, h71]
              simp only [go_sem, xQ, ↓reduceIte, xA, xM, xL, xT, xE, xN, xP, xR, xS, upd_upd, putL]
              refine callB_use (f159 (plusT t y x) (by rw [plusT]; simp only [plusC_len]; omega)) rfl ?_
              simp only [go_sem, xQ, ↓reduceIte, xA, xM, xL, xT, xE, xN, xP, xR, xS, h2', h3, h4, h5, h7, h9, h10, h11, q10, q4, q5, q7, q9, n11_4, n11_5, n11_7, n11_9, n11_10, n4_11, n5_11, n7_11, n9_11, n10_11, h69, h70, h71, upd_upd, putL]
              have hpl : (plusT t y x).coeffs.length = varsT terms := by rw [plusT]; simp only [plusC_len]; omega
              by_cases hL : largeE (plusT t y x) = 0
              · simp only [hL, if_true] at hz'
                simp only [go_sem, xQ, ↓reduceIte, xA, xM, xL, xT, xE, xN, xP, xR, xS, h2', h3, h4, h5, h7, h9, h10, h11, q10, q4, q5, q7, q9, n11_4, n11_5, n11_7, n11_9, n11_10, n4_11, n5_11, n7_11, n9_11, n10_11, hL, h69, h70, h71]
                exact ⟨lt_of_getElem? hx, by rw [wrap_succ _ (by have := lt_of_getElem? hx; omega)], plusT t y x, hpl, hz', rfl⟩
              · have hL4 : largeE (plusT t y x) = 4 := by rcases large_04 (plusT t y x) with h | h; exact absurd h hL; exact h
                simp only [hL, if_false] at hz'
                simp only [go_sem, xQ, ↓reduceIte, xA, xM, xL, xT, xE, xN, xP, xR, xS, h2', h3, h4, h5, h7, h9, h10, h11, q10, q4, q5, q7, q9, n11_4, n11_5, n11_7, n11_9, n11_10, n4_11, n5_11, n7_11, n9_11, n10_11, hL4, h69, h70, h71, e40, n54, n54']
                rw [drop_of_get hn, putNs, putNd, if_pos (by omega), hz'] at hz
                exact ⟨(((Keep.refl _ _).upd (keep_none hb11)).upd (keep_row (cs := [int 0, .v (.slice none 0 0)]) (s := 2) (c := 1) (by simp [upd, n4_11, n11_4, q4]) (fun h => h))).upd (keep_row (cs := [int 0]) (s := 1) (c := 1) (by simp [upd, n5_11, n11_5, n54, n54', q5]) (fun h => h)), hz, ((hD.upd (hD.free hb11)).upd hb4).upd hb5⟩
            · subst hjj
              rw [List.drop_length, putT] at hz'
              simp only [go_sem, xQ, ↓reduceIte, xA, xM, xL, xT, xE, xN, xP, xR, xS, h2', h3, h4, h5, h7, h9, h10, h11, q10, q4, q5, q7, q9, n11_4, n11_5, n11_7, n11_9, n11_10, n4_11, n5_11, n7_11, n9_11, n10_11, h69, h70, h71, Nat.lt_irrefl]
              simp only [go_sem, xQ, ↓reduceIte, xA, xM, xL, xT, xE, xN, xP, xR, xS, h2', h3, h4, h5, h7, h9, h10, h11, q10, q4, q5, q7, q9, n11_4, n11_5, n11_7, n11_9, n11_10, n4_11, n5_11, n7_11, n9_11, n10_11]
              refine appB_sl (appT_sl el64 tk216 by216 el64 (by decide) rfl (by decide)) ((hD.upd (hD.free hb11))) (hG.upd hb11) rfl rfl (by have := lt_of_getElem? hn; omega) (fun a' σ3 hD3 hO3 hG3 => ?_)
              have w4 : σ3 b4 = some (.row [int 0, .v (.slice none 0 0)] 2 1) := by rw [hO3 b4 (hG.neS q4 (by decide)) (by simp [upd, n4_11, n11_4, q4])]; simp [upd, n4_11, n11_4, q4]
              have w5 : σ3 b5 = some (.row [int 0] 1 1) := by rw [hO3 b5 (hG.neS q5 (by decide)) (by simp [upd, n5_11, n11_5, q5])]; simp [upd, n5_11, n11_5, q5]
              have w7 : σ3 b7 = some (.row [int (varsT terms)] 1 1) := by rw [hO3 b7 (hG.neS q7 (by decide)) (by simp [upd, n7_11, n11_7, q7])]; simp [upd, n7_11, n11_7, q7]
              have w9 : σ3 b9 = some (.row [int (varsT terms), a] 2 1) := by rw [hO3 b9 (hG.neS q9 (by decide)) (by simp [upd, n9_11, n11_9, q9])]; simp [upd, n9_11, n11_9, q9]
              have hc2 := hG3.cellsX
              have ho2 := hG3.oneX
              simp only [go_sem, xQ, ↓reduceIte, xA, xM, xL, xT, xE, xN, xP, xR, xS, h2', h3, h4, h5, h7, h9, h10, h11, q10, q4, q5, q7, q9, n11_4, n11_5, n11_7, n11_9, n11_10, n4_11, n5_11, n7_11, n9_11, n10_11, w4, w5, w7, w9, hc2, ho2, n94, n94', n95, n95', n97, n97']
              rw [drop_of_get hn, putNs, putNd, if_pos (by omega), hz', Option.map_some] at hz
              refine ⟨((Keep.refl _ _).upd (keep_none hb11)).trans ((keep_others hO3 (hG.upd hb11)).trans ((Keep.refl _ _).upd (keep_row w9 (fun h => h)))), acc ++ [⟨n.kind, t, (shiftN 0 n).kids⟩], a', ⟨hz, by simp [hacc]⟩, by simp, ?_, ?_⟩
              · have := hG3.updW (hG3.neS w9 (by decide)) (some (.row [int (varsT terms), a'] 2 1))
                simpa [ndC, slI, int, ints] using this
              · exact hD3.upd hb9
          · simp only [go_sem, xQ, ↓reduceIte, xA, xM, xL, xT, xE, xN, xP, xR, xS, h2', h3, h4, h5, h7, h9, h10, h11, q10, q4, q5, q7, q9, n11_4, n11_5, n11_7, n11_9, n11_10, n4_11, n5_11, n7_11, n9_11, n10_11, hk, hG', sortsT]
            simp only [go_sem, xQ, ↓reduceIte, xA, xM, xL, xT, xE, xN, xP, xR, xS, h2', h3, h4, h5, h7, h9, h10, h11, q10, q4, q5, q7, q9, n11_4, n11_5, n11_7, n11_9, n11_10, n4_11, n5_11, n7_11, n9_11, n10_11]
            refine appB_sl (appT_sl el64 tk216 by216 el64 (by decide) rfl (by decide)) ((hD.upd (hD.free hb11))) (hG.upd hb11) rfl rfl (by have := lt_of_getElem? hn; omega) (fun a' σ3 hD3 hO3 hG3 => ?_)
            have w4 : σ3 b4 = some (.row [int 0, .v (.slice none 0 0)] 2 1) := by rw [hO3 b4 (hG.neS q4 (by decide)) (by simp [upd, n4_11, n11_4, q4])]; simp [upd, n4_11, n11_4, q4]
            have w5 : σ3 b5 = some (.row [int 0] 1 1) := by rw [hO3 b5 (hG.neS q5 (by decide)) (by simp [upd, n5_11, n11_5, q5])]; simp [upd, n5_11, n11_5, q5]
            have w7 : σ3 b7 = some (.row [int (varsT terms)] 1 1) := by rw [hO3 b7 (hG.neS q7 (by decide)) (by simp [upd, n7_11, n11_7, q7])]; simp [upd, n7_11, n11_7, q7]
            have w9 : σ3 b9 = some (.row [int (varsT terms), a] 2 1) := by rw [hO3 b9 (hG.neS q9 (by decide)) (by simp [upd, n9_11, n11_9, q9])]; simp [upd, n9_11, n11_9, q9]
            have hc2 := hG3.cellsX
            have ho2 := hG3.oneX
            simp only [go_sem, xQ, ↓reduceIte, xA, xM, xL, xT, xE, xN, xP, xR, xS, h2', h3, h4, h5, h7, h9, h10, h11, q10, q4, q5, q7, q9, n11_4, n11_5, n11_7, n11_9, n11_10, n4_11, n5_11, n7_11, n9_11, n10_11, w4, w5, w7, w9, hc2, ho2, n94, n94', n95, n95', n97, n97']
            rw [drop_of_get hn, putNs, putNd, if_neg (by omega)] at hz
            refine ⟨((Keep.refl _ _).upd (keep_none hb11)).trans ((keep_others hO3 (hG.upd hb11)).trans ((Keep.refl _ _).upd (keep_row w9 (fun h => h)))), acc ++ [shiftN 0 n], a', ⟨hz, by simp [hacc]⟩, by simp, ?_, ?_⟩
            · have := hG3.updW (hG3.neS w9 (by decide)) (some (.row [int (varsT terms), a'] 2 1))
              simpa [ndC, slI, int, ints] using this
            · exact hD3.upd hb9
          · simp only [go_sem, xQ, ↓reduceIte, xA, xM, xL, xT, xE, xN, xP, xR, xS, h2', h3, h4, h5, h7, h9, h10, h11, q10, q4, q5, q7, q9, n11_4, n11_5, n11_7, n11_9, n11_10, n4_11, n5_11, n7_11, n9_11, n10_11, hk, hG', sortsT]
            simp only [go_sem, xQ, ↓reduceIte, xA, xM, xL, xT, xE, xN, xP, xR, xS, h2', h3, h4, h5, h7, h9, h10, h11, q10, q4, q5, q7, q9, n11_4, n11_5, n11_7, n11_9, n11_10, n4_11, n5_11, n7_11, n9_11, n10_11]
            refine appB_sl (appT_sl el64 tk216 by216 el64 (by decide) rfl (by decide)) ((hD.upd (hD.free hb11))) (hG.upd hb11) rfl rfl (by have := lt_of_getElem? hn; omega) (fun a' σ3 hD3 hO3 hG3 => ?_)
            have w4 : σ3 b4 = some (.row [int 0, .v (.slice none 0 0)] 2 1) := by rw [hO3 b4 (hG.neS q4 (by decide)) (by simp [upd, n4_11, n11_4, q4])]; simp [upd, n4_11, n11_4, q4]
            have w5 : σ3 b5 = some (.row [int 0] 1 1) := by rw [hO3 b5 (hG.neS q5 (by decide)) (by simp [upd, n5_11, n11_5, q5])]; simp [upd, n5_11, n11_5, q5]
            have w7 : σ3 b7 = some (.row [int (varsT terms)] 1 1) := by rw [hO3 b7 (hG.neS q7 (by decide)) (by simp [upd, n7_11, n11_7, q7])]; simp [upd, n7_11, n11_7, q7]
            have w9 : σ3 b9 = some (.row [int (varsT terms), a] 2 1) := by rw [hO3 b9 (hG.neS q9 (by decide)) (by simp [upd, n9_11, n11_9, q9])]; simp [upd, n9_11, n11_9, q9]
            have hc2 := hG3.cellsX
            have ho2 := hG3.oneX
            simp only [go_sem, xQ, ↓reduceIte, xA, xM, xL, xT, xE, xN, xP, xR, xS, h2', h3, h4, h5, h7, h9, h10, h11, q10, q4, q5, q7, q9, n11_4, n11_5, n11_7, n11_9, n11_10, n4_11, n5_11, n7_11, n9_11, n10_11, w4, w5, w7, w9, hc2, ho2, n94, n94', n95, n95', n97, n97']
            rw [drop_of_get hn, putNs, putNd, if_neg (by omega)] at hz
            refine ⟨((Keep.refl _ _).upd (keep_none hb11)).trans ((keep_others hO3 (hG.upd hb11)).trans ((Keep.refl _ _).upd (keep_row w9 (fun h => h)))), acc ++ [shiftN 0 n], a', ⟨hz, by simp [hacc]⟩, by simp, ?_, ?_⟩
            · have := hG3.updW (hG3.neS w9 (by decide)) (some (.row [int (varsT terms), a'] 2 1))
              simpa [ndC, slI, int, ints] using this
            · exact hD3.upd hb9
          · simp only [go_sem, xQ, ↓reduceIte, xA, xM, xL, xT, xE, xN, xP, xR, xS, h2', h3, h4, h5, h7, h9, h10, h11, q10, q4, q5, q7, q9, n11_4, n11_5, n11_7, n11_9, n11_10, n4_11, n5_11, n7_11, n9_11, n10_11, hk, hG', sortsT]
            simp only [go_sem, xQ, ↓reduceIte, xA, xM, xL, xT, xE, xN, xP, xR, xS, h2', h3, h4, h5, h7, h9, h10, h11, q10, q4, q5, q7, q9, n11_4, n11_5, n11_7, n11_9, n11_10, n4_11, n5_11, n7_11, n9_11, n10_11]
            refine appB_sl (appT_sl el64 tk216 by216 el64 (by decide) rfl (by decide)) ((hD.upd (hD.free hb11))) (hG.upd hb11) rfl rfl (by have := lt_of_getElem? hn; omega) (fun a' σ3 hD3 hO3 hG3 => ?_)
            have w4 : σ3 b4 = some (.row [int 0, .v (.slice none 0 0)] 2 1) := by rw [hO3 b4 (hG.neS q4 (by decide)) (by simp [upd, n4_11, n11_4, q4])]; simp [upd, n4_11, n11_4, q4]
            have w5 : σ3 b5 = some (.row [int 0] 1 1) := by rw [hO3 b5 (hG.neS q5 (by decide)) (by simp [upd, n5_11, n11_5, q5])]; simp [upd, n5_11, n11_5, q5]
            have w7 : σ3 b7 = some (.row [int (varsT terms)] 1 1) := by rw [hO3 b7 (hG.neS q7 (by decide)) (by simp [upd, n7_11, n11_7, q7])]; simp [upd, n7_11, n11_7, q7]
            have w9 : σ3 b9 = some (.row [int (varsT terms), a] 2 1) := by rw [hO3 b9 (hG.neS q9 (by decide)) (by simp [upd, n9_11, n11_9, q9])]; simp [upd, n9_11, n11_9, q9]
            have hc2 := hG3.cellsX
            have ho2 := hG3.oneX
            simp only [go_sem, xQ, ↓reduceIte, xA, xM, xL, xT, xE, xN, xP, xR, xS, h2', h3, h4, h5, h7, h9, h10, h11, q10, q4, q5, q7, q9, n11_4, n11_5, n11_7, n11_9, n11_10, n4_11, n5_11, n7_11, n9_11, n10_11, w4, w5, w7, w9, hc2, ho2, n94, n94', n95, n95', n97, n97']
            rw [drop_of_get hn, putNs, putNd, if_neg (by omega)] at hz
            refine ⟨((Keep.refl _ _).upd (keep_none hb11)).trans ((keep_others hO3 (hG.upd hb11)).trans ((Keep.refl _ _).upd (keep_row w9 (fun h => h)))), acc ++ [shiftN 0 n], a', ⟨hz, by simp [hacc]⟩, by simp, ?_, ?_⟩
            · have := hG3.updW (hG3.neS w9 (by decide)) (some (.row [int (varsT terms), a'] 2 1))
              simpa [ndC, slI, int, ints] using this
            · exact hD3.upd hb9
        · rintro σ' r hr' ⟨acc, a, ⟨hz, hacc⟩, q4, q5, q7, q9, hG, hD⟩ hd
          have u4 : ¬ b4 = r := dn hd q4
          have u4' : ¬ r = b4 := fun e => u4 e.symm
          have u5 : ¬ b5 = r := dn hd q5
          have u5' : ¬ r = b5 := fun e => u5 e.symm
          have u9 : ¬ b9 = r := dn hd q9
          have u9' : ¬ r = b9 := fun e => u9 e.symm
          have hc2 := hG.cellsX
          have ho2 := hG.oneX
          have hbr : σ r = none := (un (un (un (un hr').2).2).2).2
          have hlen : (nodesX f.nodes).length = f.nodes.length := by rw [nodesX, List.length_mapIdx]
          rw [hlen, List.drop_length, putNs] at hz
          rw [hr0, hz]
          simp only [go_sem, xQ, ↓reduceIte, xA, xM, xL, xT, xE, xN, xP, xR, xS, q4, q5, q9, hd, u4, u4', u5, u5', u9, u9', n54, n54', n94, n94', n95, n95', hc2, ho2]
          have hnr := hG.neO hd
          have hn4 := hG.neS q4 (by decide)
          have hn5 := hG.neS q5 (by decide)
          have hDf : ∀ x y, Drop (upd (upd σ' b4 x) b5 y) σ := fun x y => (hD.upd hb4).upd hb5
          refine ⟨.tup (.cons (.agg (.cons (.refl _) (.cons ?_ .nil))) (.cons (.refl _) .nil)), ?_⟩
          · rw [ers_upd]
            rw [hacc]
            exact ((((hG.updW hn4 _).updW hn5 _).updW hnr none).retP ((hDf _ _).upd hbr)).1
          · exact (hDf _ _).ersX hbr
        · rintro e σ' r hr' ⟨⟨rfl, hz⟩, q4, q5, hD⟩ hd
          have u4 : ¬ b4 = r := dn hd q4
          have u4' : ¬ r = b4 := fun e => u4 e.symm
          have u5 : ¬ b5 = r := dn hd q5
          have u5' : ¬ r = b5 := fun e => u5 e.symm
          rw [hr0, hz]
          simp only [go_sem, xQ, ↓reduceIte, xA, xM, xL, xT, xE, xN, xP, xR, xS, q4, q5, hd, u4, u4', u5, u5', n54, n54', fm0]
          exact ⟨.tup (.cons (.agg (.cons (.refl _) (.cons .nil .nil))) (.cons (.refl _) .nil)), hD.ersX (un (un (un (un hr').2).2).2).2⟩
      · have hr : putR f terms = (fm0, putE2 terms) := by rw [putR, if_pos h, if_neg h2]
        have h2' := h2
        unfold putE2 at h2'
        rw [hr]
        simp only [go_sem, xQ, ↓reduceIte, xA, xM, xL, xT, xE, xN, xP, xR, xS, h2', fm0, n54, n54', n75, n75', n74, n74', putE2]
        exact ⟨.tup (.cons (.agg (.cons (.refl _) (.cons .nil .nil))) (.cons (.refl _) .nil)), by repeat (first | exact Drop.refl _ | assumption | refine Drop.upd ?_ (by assumption))⟩
    · have hvq : varsT terms = 0 := by
        cases terms with
        | nil => rfl
        | cons t l => exact absurd (by simp) ht0
      simp only [go_sem, xQ, ↓reduceIte, xA, xM, xL, xT, xE, xN, xP, xR, xS, h', n54, n54', n75, n75', n74, n74', ht0]
      refine callB_a (ACalls.mono (f154 terms htl _ (fun t => checkTermE t (varsT terms)) _ ?_) (fun r σ2 hrs => ?_)) rfl
      · intro x hx σ2 hext K hK
        exact callB_a (ACalls.mono (f155 x (varsT terms) (htc x hx) b7 σ2 (by rw [hext b7 (by simp [upd])]; simp [upd, int, hvq])) (fun r σ3 ⟨hr, hs⟩ => by subst hr; subst hs; exact hK)) rfl
      obtain ⟨hr, hs⟩ := hrs
      subst hr
      subst hs
      simp only [go_sem, xQ, ↓reduceIte, xA, xM, xL, xT, xE, xN, xP, xR, xS, n54, n54', n75, n75', n74, n74']
      refine callB_use (f135 _ (by simpa using htl)) rfl ?_
      by_cases h2 : putE2 terms = 0
      · obtain ⟨hv8', hvt⟩ := vars_terms h2
        have h2' := h2
        unfold putE2 at h2'
        simp only [go_sem, xQ, ↓reduceIte, xA, xM, xL, xT, xE, xN, xP, xR, xS, h2', n54, n54', n75, n75', n74, n74']
        have hr0 : putR f terms = (match putNs terms (varsT terms) f.nodes [] with | some l => (⟨varsT terms, l⟩, 0) | none => (fm0, 4)) := by rw [putR, if_pos h, if_pos h2]
        intro b9 hb9
        obtain ⟨n97, hb9⟩ := un hb9
        obtain ⟨n95, hb9⟩ := un hb9
        obtain ⟨n94, hb9⟩ := un hb9
        have n97' : ¬ b7 = b9 := fun e => n97 e.symm
        have n95' : ¬ b5 = b9 := fun e => n95 e.symm
        have n94' : ¬ b4 = b9 := fun e => n94 e.symm
        simp only [go_sem, xQ, ↓reduceIte, xA, xM, xL, xT, xE, xN, xP, xR, xS, n54, n54', n75, n75', n74, n74', n97, n97', n95, n95', n94, n94']
        refine callB_use (f137 f) rfl ?_
        simp only [go_sem, xQ, ↓reduceIte, xA, xM, xL, xT, xE, xN, xP, xR, xS]
        have hDs : Drop (upd (upd (upd (upd σ b4 (some (.row [int 0, .v (.slice none 0 0)] 2 1))) b5 (some (.row [int 0] 1 1))) b7 (some (.row [int (varsT terms)] 1 1))) b9 (some (.row [int (varsT terms), .v (.slice none 0 0)] 2 1))) σ := by repeat (first | exact Drop.refl _ | assumption | refine Drop.upd ?_ (by assumption))
        simp only [hvq, int, Int.natCast_zero, Int.cast_ofNat_Int] at hDs
        refine SemC.rangeL (xs := nodesX f.nodes) (D := noD) (pre := fun _ => True) (f := 220) (first := []) (captured := [.pp (fmC f) 0]) mixed (by simp only [go_sem, xQ, ↓reduceIte, xA, xM, xL, xT, xE, xN, xP, xR, xS]) (f220 f hl) (by decide) (by kernel_rfl) (by kernel_rfl) noD_ctl (fun _ _ _ _ _ _ => trivial)
          (fun k σ' => ∃ acc a, (putNs terms (varsT terms) f.nodes [] = putNs terms (varsT terms) (f.nodes.drop k) acc ∧ acc.length = k) ∧ σ' b4 = some (.row [int 0, .v (.slice none 0 0)] 2 1) ∧ σ' b5 = some (.row [int 0] 1 1) ∧ σ' b7 = some (.row [int (varsT terms)] 1 1) ∧ σ' b9 = some (.row [int (varsT terms), a] 2 1) ∧ Grow σ σ' 4 a (acc.flatMap ndC) k ∧ Drop σ' σ)
          (fun e σ' => (e = .ret ∧ putNs terms (varsT terms) f.nodes [] = none) ∧ σ' b4 = some (.row [int 0, .v (.slice none 0 0)] 2 1) ∧ σ' b5 = some (.row [int 4] 1 1) ∧ Drop σ' σ)
          (fun k x ρ1 σ1 => ∃ n b10 acc a, (f.nodes[k]? = some n ∧ ρ1 2 = .pp (fmC f) 0 ∧ ρ1 3 = .pp [slT terms] 0 ∧ ρ1 4 = .v (.pointer (some ⟨b4, 0, none⟩)) ∧ ρ1 5 = .v (.pointer (some ⟨b5, 0, none⟩)) ∧ ρ1 7 = .v (.pointer (some ⟨b7, 0, none⟩)) ∧ ρ1 9 = .v (.pointer (some ⟨b9, 0, none⟩)) ∧ ρ1 10 = .v (.pointer (some ⟨b10, 0, none⟩)) ∧ putNs terms (varsT terms) f.nodes [] = putNs terms (varsT terms) (f.nodes.drop k) acc ∧ acc.length = k) ∧ σ1 b10 = some (.row (atC n k) 5 1) ∧ σ1 b4 = some (.row [int 0, .v (.slice none 0 0)] 2 1) ∧ σ1 b5 = some (.row [int 0] 1 1) ∧ σ1 b7 = some (.row [int (varsT terms)] 1 1) ∧ σ1 b9 = some (.row [int (varsT terms), a] 2 1) ∧ Grow σ σ1 4 a (acc.flatMap ndC) k ∧ Drop σ1 σ)
          (by (intros; repeat' (first | exact Closed.row (fun h => h) | exact Closed.grow (fun _ h => h) | exact Closed.drop hDs (fun _ _ _ h => h) | exact Closed.map (fun h => h) | exact Closed.const _ | refine Closed.ex fun _ => ?_ | refine Closed.and ?_ ?_))) (by (intros; repeat' (first | exact Closed.row (fun h => h) | exact Closed.grow (fun _ h => h) | exact Closed.drop hDs (fun _ _ _ h => h) | exact Closed.map (fun h => h) | exact Closed.const _ | refine Closed.ex fun _ => ?_ | refine Closed.and ?_ ?_))) (by (intros; repeat' (first | exact Closed.row (fun h => h) | exact Closed.grow (fun _ h => h) | exact Closed.drop hDs (fun _ _ _ h => h) | exact Closed.map (fun h => h) | exact Closed.const _ | refine Closed.ex fun _ => ?_ | refine Closed.and ?_ ?_)))
          ?_ ?_ ?_ ?_ ?_
        · refine ⟨[], _, ⟨rfl, rfl⟩, ?_, ?_, ?_, ?_, .nil _ _ _, ?_⟩
          · simp [upd, n54, n54', n75, n75', n74, n74', n97, n97', n95, n95', n94, n94', int]
          · simp [upd, n54, n54', n75, n75', n74, n74', n97, n97', n95, n95', n94, n94', int]
          · simp [upd, n54, n54', n75, n75', n74, n74', n97, n97', n95, n95', n94, n94', int, hvq]
          · simp [upd, n54, n54', n75, n75', n74, n74', n97, n97', n95, n95', n94, n94', int, hvq]
          · repeat (first | exact Drop.refl _ | assumption | refine Drop.upd ?_ (by assumption))
        · rintro k x E σ' l hE hx ⟨acc, a, ⟨hz, hacc⟩, q4, q5, q7, q9, hG, hD⟩
          obtain ⟨n, hn, rfl⟩ := nodesX_get hx
          have e2 : E 2 = .pp (fmC f) 0 := by rw [hE 2 (by decide)]; simp only [go_sem, xQ, ↓reduceIte, xA, xM, xL, xT, xE, xN, xP, xR, xS]
          have e3 : E 3 = .pp [slT terms] 0 := by rw [hE 3 (by decide)]; simp only [go_sem, xQ, ↓reduceIte, xA, xM, xL, xT, xE, xN, xP, xR, xS]
          have e4 : E 4 = .v (.pointer (some ⟨b4, 0, none⟩)) := by rw [hE 4 (by decide)]; simp only [go_sem, xQ, ↓reduceIte, xA, xM, xL, xT, xE, xN, xP, xR, xS]
          have e5 : E 5 = .v (.pointer (some ⟨b5, 0, none⟩)) := by rw [hE 5 (by decide)]; simp only [go_sem, xQ, ↓reduceIte, xA, xM, xL, xT, xE, xN, xP, xR, xS]
          have e7 : E 7 = .v (.pointer (some ⟨b7, 0, none⟩)) := by rw [hE 7 (by decide)]; simp only [go_sem, xQ, ↓reduceIte, xA, xM, xL, xT, xE, xN, xP, xR, xS]
          have e9 : E 9 = .v (.pointer (some ⟨b9, 0, none⟩)) := by rw [hE 9 (by decide)]; simp only [go_sem, xQ, ↓reduceIte, xA, xM, xL, xT, xE, xN, xP, xR, xS]
          simp only [go_sem, xQ, ↓reduceIte, xA, xM, xL, xT, xE, xN, xP, xR, xS, e2, e3, e4, e5, e7, e9]
          intro b10 hb10
          have m4 : ¬ b4 = b10 := nn hb10 q4
          have m5 : ¬ b5 = b10 := nn hb10 q5
          have m7 : ¬ b7 = b10 := nn hb10 q7
          have m9 : ¬ b9 = b10 := nn hb10 q9
          simp only [go_sem, xQ, ↓reduceIte, xA, xM, xL, xT, xE, xN, xP, xR, xS, e2, e3, e4, e5, e7, e9, m4, m5, m7, m9]
          refine ⟨(Keep.refl _ _).upd (keep_none hb10), n, b10, acc, a, ?_⟩
          simp only [go_sem, xQ, ↓reduceIte, xA, xM, xL, xT, xE, xN, xP, xR, xS, e2, e3, e4, e5, e7, e9, m4, m5, m7, m9, hn, q4, q5, q7, q9]
          exact ⟨⟨hz, hacc⟩, (hG.updF hb10), hD.upd (hD.free hb10)⟩
        · rintro k x ρ1 σ' l hx ⟨n, b10, acc, a, ⟨hn, h2', h3, h4, h5, h7, h9, h10, hz, hacc⟩, q10, q4, q5, q7, q9, hG, hD⟩
          have hcn := hc n (mem_of_get hn)
          have hkn := hok k n hn
          simp only [go_sem, xQ, ↓reduceIte, xA, xM, xL, xT, xE, xN, xP, xR, xS, h2', h3, h4, h5, h7, h9, h10, q10, q4, q5, q7, q9]
          refine callB_use (f156 n 0 hcn) rfl ?_
          simp only [go_sem, xQ, ↓reduceIte, xA, xM, xL, xT, xE, xN, xP, xR, xS]
          intro b11 hb11
          have n4_11 : ¬ b4 = b11 := nn hb11 q4
          have n5_11 : ¬ b5 = b11 := nn hb11 q5
          have n7_11 : ¬ b7 = b11 := nn hb11 q7
          have n9_11 : ¬ b9 = b11 := nn hb11 q9
          have n10_11 : ¬ b10 = b11 := nn hb11 q10
          have n11_4 : ¬ b11 = b4 := fun e => n4_11 e.symm
          have n11_5 : ¬ b11 = b5 := fun e => n5_11 e.symm
          have n11_7 : ¬ b11 = b7 := fun e => n7_11 e.symm
          have n11_9 : ¬ b11 = b9 := fun e => n9_11 e.symm
          have n11_10 : ¬ b11 = b10 := fun e => n10_11 e.symm
          have h11 : True := trivial
          simp only [go_sem, xQ, ↓reduceIte, xA, xM, xL, xT, xE, xN, xP, xR, xS, h2', h3, h4, h5, h7, h9, h10, h11, q10, q4, q5, q7, q9, n11_4, n11_5, n11_7, n11_9, n11_10, n4_11, n5_11, n7_11, n9_11, n10_11]
          have hcases : n.kind = 0 ∨ n.kind = 1 ∨ n.kind = 2 ∨ n.kind = 3 ∨ n.kind = 4 := by have := hkn.lo; have := hkn.hi; omega
          rcases hcases with hk | hk | hk | hk | hk
          · have ht1 := (hkn.term (by omega)).2.1
            simp only [go_sem, xQ, ↓reduceIte, xA, xM, xL, xT, xE, xN, xP, xR, xS, h2', h3, h4, h5, h7, h9, h10, h11, q10, q4, q5, q7, q9, n11_4, n11_5, n11_7, n11_9, n11_10, n4_11, n5_11, n7_11, n9_11, n10_11, hk, hG', sortsT]
            refine callB_use (f157 (varsT terms) n.term.const (by omega)) rfl ?_
            simp only [go_sem, xQ, ↓reduceIte, xA, xM, xL, xT, xE, xN, xP, xR, xS, h2', h3, h4, h5, h7, h9, h10, h11, q10, q4, q5, q7, q9, n11_4, n11_5, n11_7, n11_9, n11_10, n4_11, n5_11, n7_11, n9_11, n10_11]
            refine SemC.loopK mixed n.term.coeffs.length (fun j ρ σ2 ds => (ds = [] ∧ ρ 2 = .pp (fmC f) 0 ∧ ρ 3 = .pp [slT terms] 0 ∧ ρ 4 = .v (.pointer (some ⟨b4, 0, none⟩)) ∧ ρ 5 = .v (.pointer (some ⟨b5, 0, none⟩)) ∧ ρ 7 = .v (.pointer (some ⟨b7, 0, none⟩)) ∧ ρ 9 = .v (.pointer (some ⟨b9, 0, none⟩)) ∧ ρ 10 = .v (.pointer (some ⟨b10, 0, none⟩)) ∧ ρ 11 = .v (.pointer (some ⟨b11, 0, none⟩)) ∧ ρ 69 = slI n.term.coeffs ∧ ρ 70 = int n.term.coeffs.length ∧ ρ 71 = int j) ∧ ∃ t, t.coeffs.length = varsT terms ∧ putT terms n.term.coeffs 0 ⟨List.replicate (varsT terms) 0, n.term.const⟩ = putT terms (n.term.coeffs.drop j) j t ∧ σ2 = upd σ' b11 (some (.row [int n.kind, slI t.coeffs, int t.const, slI (shiftN 0 n).kids] 4 1))) (by kernel_rfl) ⟨by simp only [go_sem, xQ, ↓reduceIte, xA, xM, xL, xT, xE, xN, xP, xR, xS, h2', h3, h4, h5, h7, h9, h10, h11, q10, q4, q5, q7, q9, n11_4, n11_5, n11_7, n11_9, n11_10, n4_11, n5_11, n7_11, n9_11, n10_11], ⟨List.replicate (varsT terms) 0, n.term.const⟩, List.length_replicate, rfl, by simp [upd_upd, putL, hk, slI, int, shiftN]⟩ ?_
            rintro j ρ σ2 ds hj ⟨⟨rfl, h2', h3, h4, h5, h7, h9, h10, h11, h69, h70, h71⟩, t, htl', hz', rfl⟩
            rcases get_or_end n.term.coeffs j hj with ⟨x, hx, hlt, hd⟩ | hjj
            · obtain ⟨y, hy⟩ : ∃ y, terms[j]? = some y := ⟨terms[j]'(by have := lt_of_getElem? hx; omega), List.getElem?_eq_getElem _⟩
              have hyl := hvt y (mem_of_get hy)
              rw [hd, putT, hy] at hz'
              simp only [go_sem, xQ, ↓reduceIte, xA, xM, xL, xT, xE, xN, xP, xR, xS, h2', h3, h4, h5, h7, h9, h10, h11, q10, q4, q5, q7, q9, n11_4, n11_5, n11_7, n11_9, n11_10, n4_11, n5_11, n7_11, n9_11, n10_11, h69, h70, h71, hlt, hx, ↓tm_part hy, (lt_of_getElem? hy)]
              refine callB_use (f158 t y x (by omega) (by omega)) rfl ?_
              simp only [go_sem, xQ, ↓reduceIte, xA, xM, xL, xT, xE, xN, xP, xR, xS, h2', h3, h4, h5, h7, h9, h10, h11, q10, q4, q5, q7, q9, n11_4, n11_5, n11_7, n11_9, n11_10, n4_11, n5_11, n7_11, n9_11, n10_11, h69, h70, h71]
              simp only [go_sem, xQ, ↓reduceIte, xA, xM, xL, xT, xE, xN, xP, xR, xS, upd_upd, putL]
              refine callB_use (f159 (plusT t y x) (by rw [plusT]; simp only [plusC_len]; omega)) rfl ?_
              simp only [go_sem, xQ, ↓reduceIte, xA, xM, xL, xT, xE, xN, xP, xR, xS, h2', h3, h4, h5, h7, h9, h10, h11, q10, q4, q5, q7, q9, n11_4, n11_5, n11_7, n11_9, n11_10, n4_11, n5_11, n7_11, n9_11, n10_11, h69, h70, h71, upd_upd, putL]
              have hpl : (plusT t y x).coeffs.length = varsT terms := by rw [plusT]; simp only [plusC_len]; omega
              by_cases hL : largeE (plusT t y x) = 0
              · simp only [hL, if_true] at hz'
                simp only [go_sem, xQ, ↓reduceIte, xA, xM, xL, xT, xE, xN, xP, xR, xS, h2', h3, h4, h5, h7, h9, h10, h11, q10, q4, q5, q7, q9, n11_4, n11_5, n11_7, n11_9, n11_10, n4_11, n5_11, n7_11, n9_11, n10_11, hL, h69, h70, h71]
                exact ⟨lt_of_getElem? hx, by rw [wrap_succ _ (by have := lt_of_getElem? hx; omega)], plusT t y x, hpl, hz', rfl⟩
              · have hL4 : largeE (plusT t y x) = 4 := by rcases large_04 (plusT t y x) with h | h; exact absurd h hL; exact h
                simp only [hL, if_false] at hz'
                simp only [go_sem, xQ, ↓reduceIte, xA, xM, xL, xT, xE, xN, xP, xR, xS, h2', h3, h4, h5, h7, h9, h10, h11, q10, q4, q5, q7, q9, n11_4, n11_5, n11_7, n11_9, n11_10, n4_11, n5_11, n7_11, n9_11, n10_11, hL4, h69, h70, h71, e40, n54, n54']
                rw [drop_of_get hn, putNs, putNd, if_pos (by omega), hz'] at hz
                exact ⟨(((Keep.refl _ _).upd (keep_none hb11)).upd (keep_row (cs := [int 0, .v (.slice none 0 0)]) (s := 2) (c := 1) (by simp [upd, n4_11, n11_4, q4]) (fun h => h))).upd (keep_row (cs := [int 0]) (s := 1) (c := 1) (by simp [upd, n5_11, n11_5, n54, n54', q5]) (fun h => h)), hz, ((hD.upd (hD.free hb11)).upd hb4).upd hb5⟩
            · subst hjj
              rw [List.drop_length, putT] at hz'
              simp only [go_sem, xQ, ↓reduceIte, xA, xM, xL, xT, xE, xN, xP, xR, xS, h2', h3, h4, h5, h7, h9, h10, h11, q10, q4, q5, q7, q9, n11_4, n11_5, n11_7, n11_9, n11_10, n4_11, n5_11, n7_11, n9_11, n10_11, h69, h70, h71, Nat.lt_irrefl]
              simp only [go_sem, xQ, ↓reduceIte, xA, xM, xL, xT, xE, xN, xP, xR, xS, h2', h3, h4, h5, h7, h9, h10, h11, q10, q4, q5, q7, q9, n11_4, n11_5, n11_7, n11_9, n11_10, n4_11, n5_11, n7_11, n9_11, n10_11]
              refine appB_sl (appT_sl el64 tk216 by216 el64 (by decide) rfl (by decide)) ((hD.upd (hD.free hb11))) (hG.upd hb11) rfl rfl (by have := lt_of_getElem? hn; omega) (fun a' σ3 hD3 hO3 hG3 => ?_)
              have w4 : σ3 b4 = some (.row [int 0, .v (.slice none 0 0)] 2 1) := by rw [hO3 b4 (hG.neS q4 (by decide)) (by simp [upd, n4_11, n11_4, q4])]; simp [upd, n4_11, n11_4, q4]
              have w5 : σ3 b5 = some (.row [int 0] 1 1) := by rw [hO3 b5 (hG.neS q5 (by decide)) (by simp [upd, n5_11, n11_5, q5])]; simp [upd, n5_11, n11_5, q5]
              have w7 : σ3 b7 = some (.row [int (varsT terms)] 1 1) := by rw [hO3 b7 (hG.neS q7 (by decide)) (by simp [upd, n7_11, n11_7, q7])]; simp [upd, n7_11, n11_7, q7]
              have w9 : σ3 b9 = some (.row [int (varsT terms), a] 2 1) := by rw [hO3 b9 (hG.neS q9 (by decide)) (by simp [upd, n9_11, n11_9, q9])]; simp [upd, n9_11, n11_9, q9]
              have hc2 := hG3.cellsX
              have ho2 := hG3.oneX
              simp only [go_sem, xQ, ↓reduceIte, xA, xM, xL, xT, xE, xN, xP, xR, xS, h2', h3, h4, h5, h7, h9, h10, h11, q10, q4, q5, q7, q9, n11_4, n11_5, n11_7, n11_9, n11_10, n4_11, n5_11, n7_11, n9_11, n10_11, w4, w5, w7, w9, hc2, ho2, n94, n94', n95, n95', n97, n97']
              rw [drop_of_get hn, putNs, putNd, if_pos (by omega), hz', Option.map_some] at hz
              refine ⟨((Keep.refl _ _).upd (keep_none hb11)).trans ((keep_others hO3 (hG.upd hb11)).trans ((Keep.refl _ _).upd (keep_row w9 (fun h => h)))), acc ++ [⟨n.kind, t, (shiftN 0 n).kids⟩], a', ⟨hz, by simp [hacc]⟩, by simp, ?_, ?_⟩
              · have := hG3.updW (hG3.neS w9 (by decide)) (some (.row [int (varsT terms), a'] 2 1))
                simpa [ndC, slI, int, ints] using this
              · exact hD3.upd hb9
          · have ht1 := (hkn.term (by omega)).2.1
            simp only [go_sem, xQ, ↓reduceIte, xA, xM, xL, xT, xE, xN, xP, xR, xS, h2', h3, h4, h5, h7, h9, h10, h11, q10, q4, q5, q7, q9, n11_4, n11_5, n11_7, n11_9, n11_10, n4_11, n5_11, n7_11, n9_11, n10_11, hk, hG', sortsT]
            refine callB_use (f157 (varsT terms) n.term.const (by omega)) rfl ?_
            simp only [go_sem, xQ, ↓reduceIte, xA, xM, xL, xT, xE, xN, xP, xR, xS, h2', h3, h4, h5, h7, h9, h10, h11, q10, q4, q5, q7, q9, n11_4, n11_5, n11_7, n11_9, n11_10, n4_11, n5_11, n7_11, n9_11, n10_11]
            refine SemC.loopK mixed n.term.coeffs.length (fun j ρ σ2 ds => (ds = [] ∧ ρ 2 = .pp (fmC f) 0 ∧ ρ 3 = .pp [slT terms] 0 ∧ ρ 4 = .v (.pointer (some ⟨b4, 0, none⟩)) ∧ ρ 5 = .v (.pointer (some ⟨b5, 0, none⟩)) ∧ ρ 7 = .v (.pointer (some ⟨b7, 0, none⟩)) ∧ ρ 9 = .v (.pointer (some ⟨b9, 0, none⟩)) ∧ ρ 10 = .v (.pointer (some ⟨b10, 0, none⟩)) ∧ ρ 11 = .v (.pointer (some ⟨b11, 0, none⟩)) ∧ ρ 69 = slI n.term.coeffs ∧ ρ 70 = int n.term.coeffs.length ∧ ρ 71 = int j) ∧ ∃ t, t.coeffs.length = varsT terms ∧ putT terms n.term.coeffs 0 ⟨List.replicate (varsT terms) 0, n.term.const⟩ = putT terms (n.term.coeffs.drop j) j t ∧ σ2 = upd σ' b11 (some (.row [int n.kind, slI t.coeffs, int t.const, slI (shiftN 0 n).kids] 4 1))) (by kernel_rfl) ⟨by simp only [go_sem, xQ, ↓reduceIte, xA, xM, xL, xT, xE, xN, xP, xR, xS, h2', h3, h4, h5, h7, h9, h10, h11, q10, q4, q5, q7, q9, n11_4, n11_5, n11_7, n11_9, n11_10, n4_11, n5_11, n7_11, n9_11, n10_11], ⟨List.replicate (varsT terms) 0, n.term.const⟩, List.length_replicate, rfl, by simp [upd_upd, putL, hk, slI, int, shiftN]⟩ ?_
            rintro j ρ σ2 ds hj ⟨⟨rfl, h2', h3, h4, h5, h7, h9, h10, h11, h69, h70, h71⟩, t, htl', hz', rfl⟩
            rcases get_or_end n.term.coeffs j hj with ⟨x, hx, hlt, hd⟩ | hjj
            · obtain ⟨y, hy⟩ : ∃ y, terms[j]? = some y := ⟨terms[j]'(by have := lt_of_getElem? hx; omega), List.getElem?_eq_getElem _⟩
              have hyl := hvt y (mem_of_get hy)
              rw [hd, putT, hy] at hz'
              simp only [go_sem, xQ, ↓reduceIte, xA, xM, xL, xT, xE, xN, xP, xR, xS, h2', h3, h4, h5, h7, h9, h10, h11, q10, q4, q5, q7, q9, n11_4, n11_5, n11_7, n11_9, n11_10, n4_11, n5_11, n7_11, n9_11, n10_11, h69, h70, h71, hlt, hx, ↓tm_part hy, (lt_of_getElem? hy)]
              refine callB_use (f158 t y x (by omega) (by omega)) rfl ?_
              simp only [go_sem, xQ, ↓reduceIte, xA, xM, xL, xT, xE, xN, xP, xR, xS, h2', h3, h4, h5, h7, h9, h10, h11, q10, q4, q5, q7, q9, n11_4, n11_5, n11_7, n11_9, n11_10, n4_11, n5_11, n7_11, n9_11, n10_11, h69, h70, h71]
              simp only [go_sem, xQ, ↓reduceIte, xA, xM, xL, xT, xE, xN, xP, xR, xS, upd_upd, putL]
              refine callB_use (f159 (plusT t y x) (by rw [plusT]; simp only [plusC_len]; omega)) rfl ?_
              simp only [go_sem, xQ, ↓reduceIte, xA, xM, xL, xT, xE, xN, xP, xR, xS, h2', h3, h4, h5, h7, h9, h10, h11, q10, q4, q5, q7, q9, n11_4, n11_5, n11_7, n11_9, n11_10, n4_11, n5_11, n7_11, n9_11, n10_11, h69, h70, h71, upd_upd, putL]
              have hpl : (plusT t y x).coeffs.length = varsT terms := by rw [plusT]; simp only [plusC_len]; omega
              by_cases hL : largeE (plusT t y x) = 0
              · simp only [hL, if_true] at hz'
                simp only [go_sem, xQ, ↓reduceIte, xA, xM, xL, xT, xE, xN, xP, xR, xS, h2', h3, h4, h5, h7, h9, h10, h11, q10, q4, q5, q7, q9, n11_4, n11_5, n11_7, n11_9, n11_10, n4_11, n5_11, n7_11, n9_11, n10_11, hL, h69, h70, h71]
                exact ⟨lt_of_getElem? hx, by rw [wrap_succ _ (by have := lt_of_getElem? hx; omega)], plusT t y x, hpl, hz', rfl⟩
              · have hL4 : largeE (plusT t y x) = 4 := by rcases large_04 (plusT t y x) with h | h; exact absurd h hL; exact h
                simp only [hL, if_false] at hz'
                simp only [go_sem, xQ, ↓reduceIte, xA, xM, xL, xT, xE, xN, xP, xR, xS, h2', h3, h4, h5, h7, h9, h10, h11, q10, q4, q5, q7, q9, n11_4, n11_5, n11_7, n11_9, n11_10, n4_11, n5_11, n7_11, n9_11, n10_11, hL4, h69, h70, h71, e40, n54, n54']
                rw [drop_of_get hn, putNs, putNd, if_pos (by omega), hz'] at hz
                exact ⟨(((Keep.refl _ _).upd (keep_none hb11)).upd (keep_row (cs := [int 0, .v (.slice none 0 0)]) (s := 2) (c := 1) (by simp [upd, n4_11, n11_4, q4]) (fun h => h))).upd (keep_row (cs := [int 0]) (s := 1) (c := 1) (by simp [upd, n5_11, n11_5, n54, n54', q5]) (fun h => h)), hz, ((hD.upd (hD.free hb11)).upd hb4).upd hb5⟩
            · subst hjj
              rw [List.drop_length, putT] at hz'
              simp only [go_sem, xQ, ↓reduceIte, xA, xM, xL, xT, xE, xN, xP, xR, xS, h2', h3, h4, h5, h7, h9, h10, h11, q10, q4, q5, q7, q9, n11_4, n11_5, n11_7, n11_9, n11_10, n4_11, n5_11, n7_11, n9_11, n10_11, h69, h70, h71, Nat.lt_irrefl]
              simp only [go_sem, xQ, ↓reduceIte, xA, xM, xL, xT, xE, xN, xP, xR, xS, h2', h3, h4, h5, h7, h9, h10, h11, q10, q4, q5, q7, q9, n11_4, n11_5, n11_7, n11_9, n11_10, n4_11, n5_11, n7_11, n9_11, n10_11]
              refine appB_sl (appT_sl el64 tk216 by216 el64 (by decide) rfl (by decide)) ((hD.upd (hD.free hb11))) (hG.upd hb11) rfl rfl (by have := lt_of_getElem? hn; omega) (fun a' σ3 hD3 hO3 hG3 => ?_)
              have w4 : σ3 b4 = some (.row [int 0, .v (.slice none 0 0)] 2 1) := by rw [hO3 b4 (hG.neS q4 (by decide)) (by simp [upd, n4_11, n11_4, q4])]; simp [upd, n4_11, n11_4, q4]
              have w5 : σ3 b5 = some (.row [int 0] 1 1) := by rw [hO3 b5 (hG.neS q5 (by decide)) (by simp [upd, n5_11, n11_5, q5])]; simp [upd, n5_11, n11_5, q5]
              have w7 : σ3 b7 = some (.row [int (varsT terms)] 1 1) := by rw [hO3 b7 (hG.neS q7 (by decide)) (by simp [upd, n7_11, n11_7, q7])]; simp [upd, n7_11, n11_7, q7]
              have w9 : σ3 b9 = some (.row [int (varsT terms), a] 2 1) := by rw [hO3 b9 (hG.neS q9 (by decide)) (by simp [upd, n9_11, n11_9, q9])]; simp [upd, n9_11, n11_9, q9]
              have hc2 := hG3.cellsX
              have ho2 := hG3.oneX
              simp only [go_sem, xQ, ↓reduceIte, xA, xM, xL, xT, xE, xN, xP, xR, xS, h2', h3, h4, h5, h7, h9, h10, h11, q10, q4, q5, q7, q9, n11_4, n11_5, n11_7, n11_9, n11_10, n4_11, n5_11, n7_11, n9_11, n10_11, w4, w5, w7, w9, hc2, ho2, n94, n94', n95, n95', n97, n97']
              rw [drop_of_get hn, putNs, putNd, if_pos (by omega), hz', Option.map_some] at hz
              refine ⟨((Keep.refl _ _).upd (keep_none hb11)).trans ((keep_others hO3 (hG.upd hb11)).trans ((Keep.refl _ _).upd (keep_row w9 (fun h => h)))), acc ++ [⟨n.kind, t, (shiftN 0 n).kids⟩], a', ⟨hz, by simp [hacc]⟩, by simp, ?_, ?_⟩
              · have := hG3.updW (hG3.neS w9 (by decide)) (some (.row [int (varsT terms), a'] 2 1))
                simpa [ndC, slI, int, ints] using this
              · exact hD3.upd hb9
          · simp only [go_sem, xQ, ↓reduceIte, xA, xM, xL, xT, xE, xN, xP, xR, xS, h2', h3, h4, h5, h7, h9, h10, h11, q10, q4, q5, q7, q9, n11_4, n11_5, n11_7, n11_9, n11_10, n4_11, n5_11, n7_11, n9_11, n10_11, hk, hG', sortsT]
            simp only [go_sem, xQ, ↓reduceIte, xA, xM, xL, xT, xE, xN, xP, xR, xS, h2', h3, h4, h5, h7, h9, h10, h11, q10, q4, q5, q7, q9, n11_4, n11_5, n11_7, n11_9, n11_10, n4_11, n5_11, n7_11, n9_11, n10_11]
            refine appB_sl (appT_sl el64 tk216 by216 el64 (by decide) rfl (by decide)) ((hD.upd (hD.free hb11))) (hG.upd hb11) rfl rfl (by have := lt_of_getElem? hn; omega) (fun a' σ3 hD3 hO3 hG3 => ?_)
            have w4 : σ3 b4 = some (.row [int 0, .v (.slice none 0 0)] 2 1) := by rw [hO3 b4 (hG.neS q4 (by decide)) (by simp [upd, n4_11, n11_4, q4])]; simp [upd, n4_11, n11_4, q4]
            have w5 : σ3 b5 = some (.row [int 0] 1 1) := by rw [hO3 b5 (hG.neS q5 (by decide)) (by simp [upd, n5_11, n11_5, q5])]; simp [upd, n5_11, n11_5, q5]
            have w7 : σ3 b7 = some (.row [int (varsT terms)] 1 1) := by rw [hO3 b7 (hG.neS q7 (by decide)) (by simp [upd, n7_11, n11_7, q7])]; simp [upd, n7_11, n11_7, q7]
            have w9 : σ3 b9 = some (.row [int (varsT terms), a] 2 1) := by rw [hO3 b9 (hG.neS q9 (by decide)) (by simp [upd, n9_11, n11_9, q9])]; simp [upd, n9_11, n11_9, q9]
            have hc2 := hG3.cellsX
            have ho2 := hG3.oneX
            simp only [go_sem, xQ, ↓reduceIte, xA, xM, xL, xT, xE, xN, xP, xR, xS, h2', h3, h4, h5, h7, h9, h10, h11, q10, q4, q5, q7, q9, n11_4, n11_5, n11_7, n11_9, n11_10, n4_11, n5_11, n7_11, n9_11, n10_11, w4, w5, w7, w9, hc2, ho2, n94, n94', n95, n95', n97, n97']
            rw [drop_of_get hn, putNs, putNd, if_neg (by omega)] at hz
            refine ⟨((Keep.refl _ _).upd (keep_none hb11)).trans ((keep_others hO3 (hG.upd hb11)).trans ((Keep.refl _ _).upd (keep_row w9 (fun h => h)))), acc ++ [shiftN 0 n], a', ⟨hz, by simp [hacc]⟩, by simp, ?_, ?_⟩
            · have := hG3.updW (hG3.neS w9 (by decide)) (some (.row [int (varsT terms), a'] 2 1))
              simpa [ndC, slI, int, ints] using this
            · exact hD3.upd hb9
          · simp only [go_sem, xQ, ↓reduceIte, xA, xM, xL, xT, xE, xN, xP, xR, xS, h2', h3, h4, h5, h7, h9, h10, h11, q10, q4, q5, q7, q9, n11_4, n11_5, n11_7, n11_9, n11_10, n4_11, n5_11, n7_11, n9_11, n10_11, hk, hG', sortsT]
            simp only [go_sem, xQ, ↓reduceIte, xA, xM, xL, xT, xE, xN, xP, xR, xS, h2', h3, h4, h5, h7, h9, h10, h11, q10, q4, q5, q7, q9, n11_4, n11_5, n11_7, n11_9, n11_10, n4_11, n5_11, n7_11, n9_11, n10_11]
            refine appB_sl (appT_sl el64 tk216 by216 el64 (by decide) rfl (by decide)) ((hD.upd (hD.free hb11))) (hG.upd hb11) rfl rfl (by have := lt_of_getElem? hn; omega) (fun a' σ3 hD3 hO3 hG3 => ?_)
            have w4 : σ3 b4 = some (.row [int 0, .v (.slice none 0 0)] 2 1) := by rw [hO3 b4 (hG.neS q4 (by decide)) (by simp [upd, n4_11, n11_4, q4])]; simp [upd, n4_11, n11_4, q4]
            have w5 : σ3 b5 = some (.row [int 0] 1 1) := by rw [hO3 b5 (hG.neS q5 (by decide)) (by simp [upd, n5_11, n11_5, q5])]; simp [upd, n5_11, n11_5, q5]
            have w7 : σ3 b7 = some (.row [int (varsT terms)] 1 1) := by rw [hO3 b7 (hG.neS q7 (by decide)) (by simp [upd, n7_11, n11_7, q7])]; simp [upd, n7_11, n11_7, q7]
            have w9 : σ3 b9 = some (.row [int (varsT terms), a] 2 1) := by rw [hO3 b9 (hG.neS q9 (by decide)) (by simp [upd, n9_11, n11_9, q9])]; simp [upd, n9_11, n11_9, q9]
            have hc2 := hG3.cellsX
            have ho2 := hG3.oneX
            simp only [go_sem, xQ, ↓reduceIte, xA, xM, xL, xT, xE, xN, xP, xR, xS, h2', h3, h4, h5, h7, h9, h10, h11, q10, q4, q5, q7, q9, n11_4, n11_5, n11_7, n11_9, n11_10, n4_11, n5_11, n7_11, n9_11, n10_11, w4, w5, w7, w9, hc2, ho2, n94, n94', n95, n95', n97, n97']
            rw [drop_of_get hn, putNs, putNd, if_neg (by omega)] at hz
            refine ⟨((Keep.refl _ _).upd (keep_none hb11)).trans ((keep_others hO3 (hG.upd hb11)).trans ((Keep.refl _ _).upd (keep_row w9 (fun h => h)))), acc ++ [shiftN 0 n], a', ⟨hz, by simp [hacc]⟩, by simp, ?_, ?_⟩
            · have := hG3.updW (hG3.neS w9 (by decide)) (some (.row [int (varsT terms), a'] 2 1))
              simpa [ndC, slI, int, ints] using this
            · exact hD3.upd hb9
          · simp only [go_sem, xQ, ↓reduceIte, xA, xM, xL, xT, xE, xN, xP, xR, xS, h2', h3, h4, h5, h7, h9, h10, h11, q10, q4, q5, q7, q9, n11_4, n11_5, n11_7, n11_9, n11_10, n4_11, n5_11, n7_11, n9_11, n10_11, hk, hG', sortsT]
            simp only [go_sem, xQ, ↓reduceIte, xA, xM, xL, xT, xE, xN, xP, xR, xS, h2', h3, h4, h5, h7, h9, h10, h11, q10, q4, q5, q7, q9, n11_4, n11_5, n11_7, n11_9, n11_10, n4_11, n5_11, n7_11, n9_11, n10_11]
            refine appB_sl (appT_sl el64 tk216 by216 el64 (by decide) rfl (by decide)) ((hD.upd (hD.free hb11))) (hG.upd hb11) rfl rfl (by have := lt_of_getElem? hn; omega) (fun a' σ3 hD3 hO3 hG3 => ?_)
            have w4 : σ3 b4 = some (.row [int 0, .v (.slice none 0 0)] 2 1) := by rw [hO3 b4 (hG.neS q4 (by decide)) (by simp [upd, n4_11, n11_4, q4])]; simp [upd, n4_11, n11_4, q4]
            have w5 : σ3 b5 = some (.row [int 0] 1 1) := by rw [hO3 b5 (hG.neS q5 (by decide)) (by simp [upd, n5_11, n11_5, q5])]; simp [upd, n5_11, n11_5, q5]
            have w7 : σ3 b7 = some (.row [int (varsT terms)] 1 1) := by rw [hO3 b7 (hG.neS q7 (by decide)) (by simp [upd, n7_11, n11_7, q7])]; simp [upd, n7_11, n11_7, q7]
            have w9 : σ3 b9 = some (.row [int (varsT terms), a] 2 1) := by rw [hO3 b9 (hG.neS q9 (by decide)) (by simp [upd, n9_11, n11_9, q9])]; simp [upd, n9_11, n11_9, q9]
            have hc2 := hG3.cellsX
            have ho2 := hG3.oneX
            simp only [go_sem, xQ, ↓reduceIte, xA, xM, xL, xT, xE, xN, xP, xR, xS, h2', h3, h4, h5, h7, h9, h10, h11, q10, q4, q5, q7, q9, n11_4, n11_5, n11_7, n11_9, n11_10, n4_11, n5_11, n7_11, n9_11, n10_11, w4, w5, w7, w9, hc2, ho2, n94, n94', n95, n95', n97, n97']
            rw [drop_of_get hn, putNs, putNd, if_neg (by omega)] at hz
            refine ⟨((Keep.refl _ _).upd (keep_none hb11)).trans ((keep_others hO3 (hG.upd hb11)).trans ((Keep.refl _ _).upd (keep_row w9 (fun h => h)))), acc ++ [shiftN 0 n], a', ⟨hz, by simp [hacc]⟩, by simp, ?_, ?_⟩
            · have := hG3.updW (hG3.neS w9 (by decide)) (some (.row [int (varsT terms), a'] 2 1))
              simpa [ndC, slI, int, ints] using this
            · exact hD3.upd hb9
        · rintro σ' r hr' ⟨acc, a, ⟨hz, hacc⟩, q4, q5, q7, q9, hG, hD⟩ hd
          have u4 : ¬ b4 = r := dn hd q4
          have u4' : ¬ r = b4 := fun e => u4 e.symm
          have u5 : ¬ b5 = r := dn hd q5
          have u5' : ¬ r = b5 := fun e => u5 e.symm
          have u9 : ¬ b9 = r := dn hd q9
          have u9' : ¬ r = b9 := fun e => u9 e.symm
          have hc2 := hG.cellsX
          have ho2 := hG.oneX
          have hbr : σ r = none := (un (un (un (un hr').2).2).2).2
          have hlen : (nodesX f.nodes).length = f.nodes.length := by rw [nodesX, List.length_mapIdx]
          rw [hlen, List.drop_length, putNs] at hz
          rw [hr0, hz]
          simp only [go_sem, xQ, ↓reduceIte, xA, xM, xL, xT, xE, xN, xP, xR, xS, q4, q5, q9, hd, u4, u4', u5, u5', u9, u9', n54, n54', n94, n94', n95, n95', hc2, ho2]
          have hnr := hG.neO hd
          have hn4 := hG.neS q4 (by decide)
          have hn5 := hG.neS q5 (by decide)
          have hDf : ∀ x y, Drop (upd (upd σ' b4 x) b5 y) σ := fun x y => (hD.upd hb4).upd hb5
          refine ⟨.tup (.cons (.agg (.cons (.refl _) (.cons ?_ .nil))) (.cons (.refl _) .nil)), ?_⟩
          · rw [ers_upd]
            rw [hacc]
            exact ((((hG.updW hn4 _).updW hn5 _).updW hnr none).retP ((hDf _ _).upd hbr)).1
          · exact (hDf _ _).ersX hbr
        · rintro e σ' r hr' ⟨⟨rfl, hz⟩, q4, q5, hD⟩ hd
          have u4 : ¬ b4 = r := dn hd q4
          have u4' : ¬ r = b4 := fun e => u4 e.symm
          have u5 : ¬ b5 = r := dn hd q5
          have u5' : ¬ r = b5 := fun e => u5 e.symm
          rw [hr0, hz]
          simp only [go_sem, xQ, ↓reduceIte, xA, xM, xL, xT, xE, xN, xP, xR, xS, q4, q5, hd, u4, u4', u5, u5', n54, n54', fm0]
          exact ⟨.tup (.cons (.agg (.cons (.refl _) (.cons .nil .nil))) (.cons (.refl _) .nil)), hD.ersX (un (un (un (un hr').2).2).2).2⟩
      · have hr : putR f terms = (fm0, putE2 terms) := by rw [putR, if_pos h, if_neg h2]
        have h2' := h2
        unfold putE2 at h2'
        rw [hr]
        simp only [go_sem, xQ, ↓reduceIte, xA, xM, xL, xT, xE, xN, xP, xR, xS, h2', fm0, n54, n54', n75, n75', n74, n74', putE2]
        exact ⟨.tup (.cons (.agg (.cons (.refl _) (.cons .nil .nil))) (.cons (.refl _) .nil)), by repeat (first | exact Drop.refl _ | assumption | refine Drop.upd ?_ (by assumption))⟩
  · have hr : putR f terms = (fm0, putE1 f terms) := by rw [putR, if_neg h]
    have h' := h
    unfold putE1 at h'
    rw [hr]
    simp only [go_sem, xQ, ↓reduceIte, xA, xM, xL, xT, xE, xN, xP, xR, xS, h', fm0, n54, n54', putE1]
    exact ⟨.tup (.cons (.agg (.cons (.refl _) (.cons .nil .nil))) (.cons (.refl _) .nil)), by repeat (first | exact Drop.refl _ | assumption | refine Drop.upd ?_ (by assumption))⟩
end Go.AL
