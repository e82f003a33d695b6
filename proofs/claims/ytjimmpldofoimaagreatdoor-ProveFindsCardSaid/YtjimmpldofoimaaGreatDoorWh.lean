import Derived.Test.YtjimmpldofoimaaGreatDoorWg
open Nat renaming reduceEqDiff → xQ, reduceAdd → xA, reduceMul → xM, reduceLeDiff → xL
open Int renaming reduceLT → xT, reduceLE → xE, reduceToNat → xN
set_option linter.unusedVariables false
set_option linter.unusedSimpArgs false
namespace Go.AL
open Go.Proofs
variable {Γ : Glob}
attribute [local irreducible] codeW opsW dopsW
theorem f187 (p : List St) : PCalls Tryz.prog Γ 187 [prA p] (.fn (.func 242) [] [.pp [slS p] 0]) := by
  refine pcalls (ok187 Γ) fun σ => ?_
  simp only [go_sem, xQ, ↓reduceIte, xA, xM, xL, xT, xE, xN, Tryz.f187]
def cntL (l : List St) : Nat := (l.filter (·.leaf)).length
def reachP (p : List St) : List St := reachF p (3 * p.length + 2) [p.length - 1] []
theorem loop_same {lp : Loop} (h : lp.state = .ready) (h' : lp.pending = none) : { lp with state := .ready, pending := none } = lp := by
  cases lp
  simp_all
theorem Drop.of {σ τ : Sig} (h : ∀ b, τ b ≠ none → σ b = τ b) : Drop σ τ := fun b => by
  by_cases hb : τ b = none
  · exact .inl hb
  · exact .inr (h b hb).symm
theorem Drop.at {σ τ : Sig} {b : Nat} {x : Blk} (h : Drop σ τ) (hb : τ b = some x) : σ b = some x := by
  rcases h b with h | h
  · rw [hb] at h; cases h
  · rw [← h, hb]
theorem cntL_step {R : List St} {k : Nat} {s : St} (h : R[k]? = some s) : cntL (R.take (k + 1)) = cntL (R.take k) + (if s.leaf then 1 else 0) := by
  rw [take_succ h, cntL, cntL, List.filter_append, List.length_append]
  cases hs : s.leaf <;> simp [hs]
theorem cntL_le (l : List St) : cntL l ≤ l.length := List.length_filter_le _ _
theorem SemC.env {p : Par} {ro : Option Nat} {N : Nat} {c : Code} {Q : Post} {ρ : Env} {σ : Sig} {ds : List Nat} (h : ∀ E, E = ρ → SemC p ro N c Q E σ ds) : SemC p ro N c Q ρ σ ds := h ρ rfl
theorem SemC.code_eq {p : Par} {ro : Option Nat} {N : Nat} {c c' : Code} {Q : Post} {ρ : Env} {σ : Sig} {ds : List Nat} (e : c = c') (h : SemC p ro N c' Q ρ σ ds) : SemC p ro N c Q ρ σ ds := e ▸ h
theorem envOf_range (N : Nat) (ρ : Env) (t : Nat) : envOf ((List.range N).map ρ) t = if t < N then ρ t else .v undef := by
  have key : ∀ (l : List AV) (t : Nat), envOf l t = (l[t]?).getD (.v undef) := by
    intro l
    induction l with
    | nil => intro t; simp [envOf]
    | cons a l ih => intro t; cases t <;> simp [envOf, ih]
  rw [key, List.getElem?_map]
  by_cases h : t < N
  · rw [if_pos h, List.getElem?_range h]; rfl
  · rw [if_neg h, List.getElem?_eq_none (by simpa using h)]; rfl
theorem f102 (p : List St) (n : Int) (hp : Fits p.length) (hpc : ∀ s ∈ p, Fits s.factors.length) (hG1 : Γ 1 = some [int 0, int 0]) (hR : (reachP p).length ≤ 1000000) :
    PCalls Tryz.prog Γ 102 [prA p, int n] (.tup [int (if checkFormE p n = 0 then (cntL (reachP p) : Int) else 0), int (checkFormE p n)]) := by
  refine pcalls (ok102 Γ) fun σ => ?_
  simp only [go_sem, xQ, ↓reduceIte, xA, xM, xL, xT, xE, xN, Tryz.f102]
  refine callB_use (f29 p n hp hpc hG1) rfl ?_
  by_cases h1 : checkFormE p n = 0
  · have hv : ∃ m : Nat, n = m := by
      unfold checkFormE at h1
      by_cases he : firstE [withinE n 0 8, whenE (decide ((p.length : Int) = 0)) 10, whenE (decide (127 < (p.length : Int))) 5] = 0
      · have := (firstE_zero _).1 he (withinE n 0 8) (by simp)
        unfold withinE at this
        split at this
        · simp at this
        · exact ⟨n.toNat, by omega⟩
      · rw [if_neg he] at h1; exact absurd h1 he
    obtain ⟨m, rfl⟩ := hv
    obtain ⟨hne, _, hok⟩ := form_ok h1
    simp only [go_sem, xQ, ↓reduceIte, xA, xM, xL, xT, xE, xN, h1]
    intro b7 hb7
    simp only [go_sem, xQ, ↓reduceIte, xA, xM, xL, xT, xE, xN, h1]
    refine callB_use (f187 p) rfl ?_
    simp only [go_sem, xQ, ↓reduceIte, xA, xM, xL, xT, xE, xN, h1]
    refine SemC.env fun E hE => ?_
    have h7 : E 7 = .v (.pointer (some ⟨b7, 0, none⟩)) := by rw [hE]; simp only [go_sem, xQ, ↓reduceIte, xA, xM, xL, xT, xE, xN]
    have h16 : E 16 = .fn (.func 242) [] [.pp [slS p] 0] := by rw [hE]; simp only [go_sem, xQ, ↓reduceIte, xA, xM, xL, xT, xE, xN]
    clear hE
    refine SemC.rangeFunc (f := 242) (first := []) (captured := [.pp [slS p] 0]) h16 (fun r l lp hr hl hlr hps has hbd hst hpe htm => ?_)
    have hc7 : envOf ((List.range 23).map E) 7 = .v (.pointer (some ⟨b7, 0, none⟩)) := by rw [envOf_range, if_pos (by decide)]; exact h7
    generalize hcs : (List.range 23).map E = cs at hc7
    obtain ⟨nl7, hl⟩ := upd_none hl
    obtain ⟨nr7, hr⟩ := upd_none hr
    have nl7' : ¬ b7 = l := fun e => nl7 e.symm
    have nr7' : ¬ b7 = r := fun e => nr7 e.symm
    have hrl : ¬ r = l := fun e => hlr e.symm
    have hS0 : upd (upd (upd σ b7 (some (.row [.v (.int .i64 0)] 1 1))) r (some (.obj (.deferred (some []))))) l (some (.loop lp cs)) = upd (upd (upd σ r (some (.obj (.deferred (some []))))) l (some (.loop lp cs))) b7 (some (.row [int (cntL ((reachP p).take 0))] 1 1)) := by
      rw [upd_comm σ b7 r _ _ nr7', upd_comm _ b7 l _ _ nl7']; rfl
    generalize hB : upd (upd σ r (some (.obj (.deferred (some []))))) l (some (.loop lp cs)) = B at hS0
    have hBl : B l = some (.loop lp cs) := by rw [← hB, upd_same]
    have hBr : B r = some (.obj (.deferred (some []))) := by rw [← hB, upd_ne _ _ _ _ hrl, upd_same]
    have hBo : ∀ i, ¬ i = r → ¬ i = l → B i = σ i := fun i h1 h2 => by rw [← hB, upd_ne _ _ _ _ h2, upd_ne _ _ _ _ h1]
    have hlst := loop_same hst hpe
    refine ACalls.mono (K := fun _ σ' => Drop σ' (upd B b7 (some (.row [int (cntL ((reachP p).take (reachP p).length))] 1 1)))) ?_ ?_
    · show ACalls Tryz.prog Γ 242 ([] ++ [AV.fn (Fn.yield l) [] []] ++ [AV.pp [slS p] 0]) (upd (upd (upd σ b7 (some (.row [.v (.int .i64 0)] 1 1))) r (some (.obj (.deferred (some []))))) l (some (.loop lp cs))) _
      rw [hS0]
      refine f242 p hp hne m hok (3 * p.length + 2) (by omega) (.fn (.yield l) [] []) (fun k => upd B b7 (some (.row [int (cntL ((reachP p).take k))] 1 1))) (fun k i => by simp only [upd]; split <;> simp) ?_ (fun σ' h => h)
      intro k s σ' K hget hD hK
      have e7 := hD.at (upd_same _ _ _)
      have el := hD.at ((upd_ne _ _ _ _ nl7).trans hBl)
      have hcl : cntL ((reachP p).take k) ≤ 1000000 := Nat.le_trans (cntL_le _) (by rw [List.length_take]; omega)
      have hstep : cntL ((reachP p).take (k + 1)) = cntL ((reachP p).take k) + (if s.leaf then 1 else 0) := cntL_step hget
      refine yield_call (p := p102 Γ) (N := 23) (lp := lp) el hps hst htm (by decide) ?_
      rw [has]
      refine codeW_sound (p := p102 Γ) mixed _ _ _ _ _ (by kernel_rfl) ?_
      simp only [go_sem, xQ, ↓reduceIte, xA, xM, xL, xT, xE, xN, hc7]
      intro b8 hb8
      have n87 := none_ne hb8 e7
      have n8l := none_ne hb8 el
      have n8l' : ¬ b8 = l := fun e => n8l e.symm
      have n87' : ¬ b8 = b7 := fun e => n87 e.symm
      simp only [go_sem, xQ, ↓reduceIte, xA, xM, xL, xT, xE, xN, hc7]
      refine ⟨rfl, _, by rw [upd_ne _ _ _ _ n8l, el], ?_⟩
      refine SemC.code_eq hbd (codeW_sound (p := p102 Γ) mixed _ _ _ _ _ (by kernel_rfl) ?_)
      cases hleaf : s.leaf with
      | true =>
        simp only [go_sem, xQ, ↓reduceIte, xA, xM, xL, xT, xE, xN, hc7, upd_at, n87, n8l, n8l', n87', nl7', nl7, e7, hleaf]
        rw [hleaf] at hstep
        simp only [if_true] at hstep
        rw [wrap_succ _ (by omega), ← hstep]
        refine ⟨cs, by simp only [upd_at, nl7, if_false, if_true], ?_⟩
        show K _ _
        rw [hlst]
        refine hK _ (Drop.of ?_) ?_
        · intro i hi
          by_cases i1 : i = l
          · subst i1; rw [upd_same, upd_ne _ _ _ _ nl7, hBl]
          · by_cases i2 : i = b7
            · subst i2
              simp only [upd_at, nl7', if_false, if_true, int]
            · rcases hD i with h | h
              · rw [upd_ne _ _ _ _ i2] at h hi
                exact absurd h hi
              · have i3 : ¬ i = b8 := fun e => by
                  subst e
                  rw [hb8] at h
                  rw [upd_ne _ _ _ _ i2] at h hi
                  exact hi h
                rw [upd_ne _ _ _ _ i2] at h
                simp only [upd_at, i1, i2, i3, if_false]
                exact h.symm
        · intro i hi hne
          have i1 : ¬ i = l := fun e => by subst e; rw [upd_ne _ _ _ _ nl7, hBl] at hi; cases hi
          have i2 : ¬ i = b7 := fun e => by subst e; rw [upd_same] at hi; cases hi
          have i3 : ¬ i = b8 := fun e => by subst e; exact hne hb8
          simp only [upd_at, i1, i2, i3, if_false]
      | false =>
        simp only [go_sem, xQ, ↓reduceIte, xA, xM, xL, xT, xE, xN, hc7, upd_at, n87, n8l, n8l', n87', nl7', nl7, e7, hleaf]
        rw [hleaf] at hstep
        simp only [Bool.false_eq_true, if_false, Nat.add_zero] at hstep
        refine ⟨cs, by simp only [upd_at, nl7, if_false, if_true], ?_⟩
        show K _ _
        rw [hlst]
        refine hK _ (Drop.of ?_) ?_
        · intro i hi
          by_cases i1 : i = l
          · subst i1; rw [upd_same, upd_ne _ _ _ _ nl7, hBl]
          · by_cases i2 : i = b7
            · subst i2
              simp only [upd_at, nl7', n87, if_false, if_true, e7, hstep]
            · rcases hD i with h | h
              · rw [upd_ne _ _ _ _ i2] at h hi
                exact absurd h hi
              · have i3 : ¬ i = b8 := fun e => by
                  subst e
                  rw [hb8] at h
                  rw [upd_ne _ _ _ _ i2] at h hi
                  exact hi h
                rw [upd_ne _ _ _ _ i2] at h
                simp only [upd_at, i1, i2, i3, if_false]
                exact h.symm
        · intro i hi hne
          have i1 : ¬ i = l := fun e => by subst e; rw [upd_ne _ _ _ _ nl7, hBl] at hi; cases hi
          have i2 : ¬ i = b7 := fun e => by subst e; rw [upd_same] at hi; cases hi
          have i3 : ¬ i = b8 := fun e => by subst e; exact hne hb8
          simp only [upd_at, i1, i2, i3, if_false]
    · intro _ σ' hD
      have e7 := hD.at (upd_same _ _ _)
      have el := hD.at ((upd_ne _ _ _ _ nl7).trans hBl)
      have er := hD.at ((upd_ne _ _ _ _ nr7).trans hBr)
      refine ⟨.ready, none, _, by rw [el, hlst], by simp, ?_⟩
      simp only [go_sem, xQ, ↓reduceIte, xA, xM, xL, xT, xE, xN, h7, e7, nl7']
      refine ⟨.inr rfl, fun r' hr' => ?_, by simp, _, rfl, ?_⟩
      · simp only [List.mem_singleton] at hr'
        subst hr'
        rw [ers_ne _ _ _ hrl, er]
      · have hres : (if checkFormE p (m : Int) = 0 then (cntL (reachP p) : Int) else 0) = cntL (reachP p) := if_pos h1
        rw [hres, h1, List.take_length]
        refine retP_drop (fun i => ?_) rfl
        by_cases i1 : i = r
        · subst i1; exact .inl hr
        · by_cases i2 : i = l
          · subst i2; exact .inl hl
          · by_cases i3 : i = b7
            · subst i3; exact .inl hb7
            · have := hD i
              rw [upd_ne _ _ _ _ i3, hBo i i1 i2] at this
              show σ i = none ∨ σ i = ers (ers σ' l) r i
              rw [ers_ne _ _ _ i1, ers_ne _ _ _ i2]
              exact this
  · simp only [go_sem, xQ, ↓reduceIte, xA, xM, xL, xT, xE, xN, h1]
end Go.AL

set_option linter.unusedVariables false
set_option linter.unusedSimpArgs false
namespace Go.AL
open Go.Proofs
variable {Γ : Glob}
attribute [local irreducible] codeW opsW dopsW
def fst29 : List Tm := [⟨[1], -3⟩, ⟨[-1], 2⟩]
def snd29 : List Tm := [⟨[2], -3⟩, ⟨[-2], 3⟩]
def thd29 : List Tm := [⟨[1, 1], -4⟩, ⟨[-1, -2], 5⟩, ⟨[-1, 1], 0⟩]
def pr29 : List St := [⟨true, [1, 1], 0, 0, 0, 0⟩]
theorem a86_1 : PCalls Tryz.prog Γ 86 [slT fst29] (.tup [prA pr29, .v (.bool true), int 0]) := by
  have h := f86 (Γ := Γ) fst29 (by decide) (by decide)
  have e1 : checkTermsE fst29 = 0 := by kernel_rfl
  have e2 : pairP fst29 = (pr29, true) := by kernel_rfl
  rw [e1, e2] at h
  exact h
theorem a86_2 : PCalls Tryz.prog Γ 86 [slT [⟨[2], -3⟩]] (.tup [prA [], .v (.bool false), int 0]) := by
  have h := f86 (Γ := Γ) [⟨[2], -3⟩] (by decide) (by decide)
  have e1 : checkTermsE [⟨[2], -3⟩] = 0 := by kernel_rfl
  have e2 : pairP [⟨[2], -3⟩] = ([], false) := by kernel_rfl
  rw [e1, e2] at h
  exact h
theorem a23_1 (hG : Γ 1 = some [int 0, int 0]) : PCalls Tryz.prog Γ 23 [slT fst29, prA pr29] (.tup [int 0, int 0]) := by
  have h := f23 (Γ := Γ) fst29 pr29 (by decide) (by decide) (by decide) (by decide) hG
  have e : checkP fst29 pr29 = (0, 0) := by kernel_rfl
  rw [e] at h
  exact h
theorem a23_2 (hG : Γ 1 = some [int 0, int 0]) : PCalls Tryz.prog Γ 23 [slT snd29, prA splitP] (.tup [int 0, int 0]) := by
  have h := f23 (Γ := Γ) snd29 splitP (by decide) (by decide) (by decide) (by decide) hG
  have e : checkP snd29 splitP = (0, 0) := by kernel_rfl
  rw [e] at h
  exact h
theorem a23_3 (hG : Γ 1 = some [int 0, int 0]) : PCalls Tryz.prog Γ 23 [slT snd29, prA pr29] (.tup [int 0, int 29]) := by
  have h := f23 (Γ := Γ) snd29 pr29 (by decide) (by decide) (by decide) (by decide) hG
  have e : checkP snd29 pr29 = (0, 29) := by kernel_rfl
  rw [e] at h
  exact h
theorem a85_1 : PCalls Tryz.prog Γ 85 [slT thd29, slR [⟨0, 10⟩, ⟨0, 10⟩]] (.tup [slR [], int 28]) := by
  have h := f85 (Γ := Γ) thd29 [⟨0, 10⟩, ⟨0, 10⟩] (by decide) (by decide) (by decide)
  have e : NarrowedP thd29 [⟨0, 10⟩, ⟨0, 10⟩] = ([], 28) := by kernel_rfl
  rw [e] at h
  exact h
theorem a85_2 : PCalls Tryz.prog Γ 85 [slT [⟨[1], -3⟩], slR [⟨0, 9⟩]] (.tup [slR [⟨3, 9⟩], int 0]) := by
  have h := f85 (Γ := Γ) [⟨[1], -3⟩] [⟨0, 9⟩] (by decide) (by decide) (by decide)
  have e : NarrowedP [⟨[1], -3⟩] [⟨0, 9⟩] = ([⟨3, 9⟩], 0) := by kernel_rfl
  rw [e] at h
  exact h
theorem a31_1 : PCalls Tryz.prog Γ 31 [slT [⟨[1], -3⟩], slR [⟨0, 9⟩], int 4] (.tup [slI [3], .v (.bool true), int 0]) := by
  have h := f31 (Γ := Γ) [⟨[1], -3⟩] [⟨0, 9⟩] 4 (by decide) (by decide) (by decide)
  have e : SearchP [⟨[1], -3⟩] [⟨0, 9⟩] 4 = ([3], true, 0) := by kernel_rfl
  rw [e] at h
  exact h
theorem a31_2 : PCalls Tryz.prog Γ 31 [slT [⟨[1], -3⟩], slR [⟨0, 9⟩], int 3] (.tup [slI [], .v (.bool false), int 30]) := by
  have h := f31 (Γ := Γ) [⟨[1], -3⟩] [⟨0, 9⟩] 3 (by decide) (by decide) (by decide)
  have e : SearchP [⟨[1], -3⟩] [⟨0, 9⟩] 3 = ([], false, 30) := by kernel_rfl
  rw [e] at h
  exact h
theorem a31_3 : PCalls Tryz.prog Γ 31 [slT thd29, slR [⟨0, 10⟩, ⟨0, 10⟩], int 1] (.tup [slI [], .v (.bool false), int 0]) := by
  have h := f31 (Γ := Γ) thd29 [⟨0, 10⟩, ⟨0, 10⟩] 1 (by decide) (by decide) (by decide)
  have e : SearchP thd29 [⟨0, 10⟩, ⟨0, 10⟩] 1 = ([], false, 0) := by kernel_rfl
  rw [e] at h
  exact h
/-- The numerals that the example's print needs. -/
def txq (n : Int) : ByteArray := if n = 0 then ⟨#[48]⟩ else if n = 1 then ⟨#[49]⟩ else ⟨#[50]⟩
theorem txq_ok (x : Int) (h : x = 0 ∨ x = 1 ∨ x = 2) : DCall Tryz.prog Γ (.fn (.func 238) [] []) [int x] (str (txq x)) := by
  have d0 : Lib.decDigits 0 = [48] := by rw [Lib.decDigits]; rfl
  have d1 : Lib.decDigits 1 = [49] := by rw [Lib.decDigits]; rfl
  have d2 : Lib.decDigits 2 = [50] := by rw [Lib.decDigits]; rfl
  rcases h with rfl | rfl | rfl
  · have := f238_small (Γ := Γ) 0 (by decide)
    rw [d0] at this
    exact dcall_of this rfl
  · have := f238_small (Γ := Γ) 1 (by decide)
    rw [d1] at this
    exact dcall_of this rfl
  · have := f238_small (Γ := Γ) 2 (by decide)
    rw [d2] at this
    exact dcall_of this rfl
def txt29 : ByteArray := ⟨#[108, 101, 97, 102, 32, 49, 32, 48, 32, 50, 10, 108, 101, 97, 102, 32, 48, 32, 49, 32, 50, 10, 115, 112, 108, 105, 116, 32, 48, 32, 49, 32, 48, 32, 49, 10]⟩
theorem a95 (hG1 : Γ 1 = some [int 0, int 0]) (hG3 : Γ 3 = some kindsT) : PCalls Tryz.prog Γ 95 [prA splitP, int 1] (.tup [str txt29, int 0]) := by
  have hx : ∀ s ∈ splitP, ∀ x ∈ lineL s, x = 0 ∨ x = 1 ∨ x = 2 := by decide
  have h := f95 (Γ := Γ) txq splitP 1 (by decide) (by decide) hG1 hG3 (fun s hs x hx' => txq_ok x (hx s hs x hx')) (by
    have : ∀ s ∈ splitP, (Lib.join (((if s.leaf then bLeaf else bSplit) :: (lineL s).map txq).map (·.data.toList)) bSp.data.toList).length ≤ 140737488355328 := by decide
    exact this) (by decide)
  have e1 : checkFormE splitP 1 = 0 := by kernel_rfl
  have e2 : printP txq splitP = txt29 := by kernel_rfl
  rw [e1, if_pos rfl, e2] at h
  exact h
theorem a102 (hG1 : Γ 1 = some [int 0, int 0]) : PCalls Tryz.prog Γ 102 [prA splitP, int 1] (.tup [int 2, int 0]) := by
  have h := f102 (Γ := Γ) splitP 1 (by decide) (by decide) hG1 (by decide)
  have e1 : checkFormE splitP 1 = 0 := by kernel_rfl
  have e2 : cntL (reachP splitP) = 2 := by kernel_rfl
  rw [e1, if_pos rfl, e2] at h
  exact h
set_option maxRecDepth 100000 in
theorem f22 (hG1 : Γ 1 = some [int 0, int 0]) (hG3 : Γ 3 = some kindsT) : PCalls Tryz.prog Γ 22 [] (.v (.bool true)) := by
  refine pcalls (ok22 Γ) fun σ => ?_
  simp only [go_sem, xQ, ↓reduceIte, xA, xM, xL, xT, xE, xN, Tryz.f22]
  refine callB_use f112 rfl ?_
  simp only [go_sem, xQ, ↓reduceIte, xA, xM, xL, xT, xE, xN]
  refine callB_use (a86_1) rfl ?_
  simp only [go_sem, xQ, ↓reduceIte, xA, xM, xL, xT, xE, xN]
  intro b1 hb1
  simp only [go_sem, xQ, ↓reduceIte, xA, xM, xL, xT, xE, xN]
  refine dcallB_use (f112) rfl ?_
  simp only [go_sem, xQ, ↓reduceIte, xA, xM, xL, xT, xE, xN]
  refine callB_use (a23_1 hG1) rfl ?_
  simp only [go_sem, xQ, ↓reduceIte, xA, xM, xL, xT, xE, xN]
  refine callB_use (f113) rfl ?_
  simp only [go_sem, xQ, ↓reduceIte, xA, xM, xL, xT, xE, xN]
  refine callB_use (f114) rfl ?_
  simp only [go_sem, xQ, ↓reduceIte, xA, xM, xL, xT, xE, xN]
  refine callB_use (a23_2 hG1) rfl ?_
  simp only [go_sem, xQ, ↓reduceIte, xA, xM, xL, xT, xE, xN]
  refine callB_use (f113) rfl ?_
  simp only [go_sem, xQ, ↓reduceIte, xA, xM, xL, xT, xE, xN]
  refine callB_use (a86_2) rfl ?_
  simp only [go_sem, xQ, ↓reduceIte, xA, xM, xL, xT, xE, xN]
  intro b8 hb8
  obtain ⟨n81, hb8⟩ := upd_none hb8
  have n81' : ¬ b1 = b8 := fun e => n81 e.symm
  simp only [go_sem, xQ, ↓reduceIte, xA, xM, xL, xT, xE, xN, n81, n81']
  refine callB_use (f113) rfl ?_
  simp only [go_sem, xQ, ↓reduceIte, xA, xM, xL, xT, xE, xN, n81, n81']
  refine callB_use (a23_3 hG1) rfl ?_
  simp only [go_sem, xQ, ↓reduceIte, xA, xM, xL, xT, xE, xN, n81, n81']
  refine callB_use (f115) rfl ?_
  simp only [go_sem, xQ, ↓reduceIte, xA, xM, xL, xT, xE, xN, n81, n81']
  refine callB_use (a85_1) rfl ?_
  simp only [go_sem, xQ, ↓reduceIte, xA, xM, xL, xT, xE, xN, n81, n81']
  refine callB_use (f112) rfl ?_
  simp only [go_sem, xQ, ↓reduceIte, xA, xM, xL, xT, xE, xN, n81, n81']
  refine callB_use (a85_2) rfl ?_
  simp only [go_sem, xQ, ↓reduceIte, xA, xM, xL, xT, xE, xN, n81, n81']
  refine callB_use (f112) rfl ?_
  simp only [go_sem, xQ, ↓reduceIte, xA, xM, xL, xT, xE, xN, n81, n81']
  refine callB_use (a31_1) rfl ?_
  simp only [go_sem, xQ, ↓reduceIte, xA, xM, xL, xT, xE, xN, n81, n81']
  refine callB_use (f112) rfl ?_
  simp only [go_sem, xQ, ↓reduceIte, xA, xM, xL, xT, xE, xN, n81, n81']
  refine callB_use (a31_2) rfl ?_
  simp only [go_sem, xQ, ↓reduceIte, xA, xM, xL, xT, xE, xN, n81, n81']
  refine callB_use (f115) rfl ?_
  simp only [go_sem, xQ, ↓reduceIte, xA, xM, xL, xT, xE, xN, n81, n81']
  refine callB_use (a31_3) rfl ?_
  simp only [go_sem, xQ, ↓reduceIte, xA, xM, xL, xT, xE, xN, n81, n81']
  refine callB_use (f114) rfl ?_
  simp only [go_sem, xQ, ↓reduceIte, xA, xM, xL, xT, xE, xN, n81, n81']
  refine callB_use (a95 hG1 hG3) rfl ?_
  simp only [go_sem, xQ, ↓reduceIte, xA, xM, xL, xT, xE, xN, n81, n81']
  refine callB_use (f114) rfl ?_
  simp only [go_sem, xQ, ↓reduceIte, xA, xM, xL, xT, xE, xN, n81, n81']
  refine callB_use (a102 hG1) rfl ?_
  simp only [go_sem, xQ, ↓reduceIte, xA, xM, xL, xT, xE, xN, n81, n81']
  have hfm : pr29.flatMap stC = [.v (.bool true), slI [1, 1], int 0, int 0, int 0, int 0] := rfl
  have hln : pr29.length = 1 := rfl
  have hfr : List.flatMap rgC [⟨3, 9⟩] = [int 3, int 9] := rfl
  have hw0 : IntKind.i64.wrap 0 = 0 := by decide
  simp only [go_sem, xQ, ↓reduceIte, xA, xM, xL, xT, xE, xN, List.append_eq, n81, n81', Int.add_zero, hw0, hfm, hln, hfr]
  refine callB_use (f38 [1, 1] [1, 1] (by decide)) rfl ?_
  simp only [go_sem, xQ, ↓reduceIte, xA, xM, xL, xT, xE, xN, List.append_eq, n81, n81', Int.add_zero, hw0, hfm, hln, hfr]
  refine callB_use (f38 [3] [3] (by decide)) rfl ?_
  simp only [go_sem, xQ, ↓reduceIte, xA, xM, xL, xT, xE, xN, List.append_eq, n81, n81', Int.add_zero, hw0, hfm, hln, hfr, str, txt29, beq_self_eq_true]
  exact retP_drop (((Drop.refl σ).upd hb1).upd hb8) rfl
end Go.AL

set_option linter.unusedVariables false
set_option linter.unusedSimpArgs false
namespace Go.AL
open Go.Proofs
variable {Γ : Glob}
attribute [local irreducible] codeW opsW dopsW
theorem shortTerms_ok {l : List Tm} (h : shortTermsB l = true) : l.length ≤ 41 ∧ ∀ t ∈ l, t.coeffs.length ≤ 10 := by
  simp only [shortTermsB, Bool.and_eq_true, Bool.or_eq_true, List.all_eq_true, decide_eq_true_eq, shortTermB] at h
  exact ⟨by omega, h.1⟩
theorem short_ok {p : List St} (h : shortB p = true) : p.length ≤ 128 ∧ ∀ s ∈ p, s.factors.length ≤ 168 := by
  simp only [shortB, Bool.and_eq_true, Bool.or_eq_true, List.all_eq_true, decide_eq_true_eq, shortStepB] at h
  exact ⟨by omega, fun s hs => by have := h.1 s hs; omega⟩
theorem f3 (hG1 : Γ 1 = some [int 0, int 0]) (hG3 : Γ 3 = some kindsT) (l : List Tm) (p : List St) (n : Int) (hl : l.length ≤ 9223372036854775807) (hp : p.length ≤ 9223372036854775807) : PCalls Tryz.prog Γ 3 [slT l, prA p, int n] (.v (.bool true)) := by
  refine pcalls (ok3 Γ) fun σ => ?_
  simp only [go_sem, xQ, ↓reduceIte, xA, xM, xL, xT, xE, xN, Tryz.f3]
  refine callB_use (f20 l hl) rfl ?_
  cases h1 : shortTermsB l with
  | false =>
    simp only [go_sem, xQ, ↓reduceIte, xA, xM, xL, xT, xE, xN]
    refine callB_use (f22 hG1 hG3) rfl ?_
    simp only [go_sem, xQ, ↓reduceIte, xA, xM, xL, xT, xE, xN]
  | true =>
    simp only [go_sem, xQ, ↓reduceIte, xA, xM, xL, xT, xE, xN]
    refine callB_use (f21 p hp) rfl ?_
    cases h2 : shortB p with
    | false =>
      simp only [go_sem, xQ, ↓reduceIte, xA, xM, xL, xT, xE, xN]
      refine callB_use (f22 hG1 hG3) rfl ?_
      simp only [go_sem, xQ, ↓reduceIte, xA, xM, xL, xT, xE, xN]
    | true =>
      obtain ⟨a1, a2⟩ := shortTerms_ok h1
      obtain ⟨b1, b2⟩ := short_ok h2
      have hc : ∀ t ∈ l, Fits t.coeffs.length := fun t ht => by have := a2 t ht; omega
      have hpc : ∀ s ∈ p, Fits s.factors.length := fun s hs => by have := b2 s hs; omega
      have E1 : (checkTermsE l = checkTermsR l) = True := eq_true (checkTerms_eq l)
      have E2 : (checkFormE p n = checkFormR p n) = True := eq_true (checkForm_eq p n)
      have E3 : ((checkP l p).1 = (checkR l p).1) = True := eq_true (by rw [check_eq])
      have E4 : ((checkP l p).2 = (checkR l p).2) = True := eq_true (by rw [check_eq])
      simp only [go_sem, xQ, ↓reduceIte, xA, xM, xL, xT, xE, xN, E1, E2, E3, E4]
      refine dcallB_use (f24 l (by omega) hc) rfl ?_
      simp only [go_sem, xQ, ↓reduceIte, xA, xM, xL, xT, xE, xN, E1, E2, E3, E4]
      refine callB_use (f25 p (by omega) hpc) rfl ?_
      simp only [go_sem, xQ, ↓reduceIte, xA, xM, xL, xT, xE, xN, E1, E2, E3, E4]
      refine callB_use (f23 l p (by omega) hc (by omega) hpc hG1) rfl ?_
      simp only [go_sem, xQ, ↓reduceIte, xA, xM, xL, xT, xE, xN, E1, E2, E3, E4]
      refine callB_use (f26 l p (by omega) hc (by omega) hpc) rfl ?_
      simp only [go_sem, xQ, ↓reduceIte, xA, xM, xL, xT, xE, xN, E1, E2, E3, E4]
      refine callB_use (f24 l (by omega) hc) rfl ?_
      simp only [go_sem, xQ, ↓reduceIte, xA, xM, xL, xT, xE, xN, E1, E2, E3, E4]
      refine callB_use (f27 l (by omega) hc) rfl ?_
      simp only [go_sem, xQ, ↓reduceIte, xA, xM, xL, xT, xE, xN, E1, E2, E3, E4]
      refine callB_use (f28 l (by omega) hc) rfl ?_
      simp only [go_sem, xQ, ↓reduceIte, xA, xM, xL, xT, xE, xN, E1, E2, E3, E4]
      refine dcallB_use (f25 p (by omega) hpc) rfl ?_
      simp only [go_sem, xQ, ↓reduceIte, xA, xM, xL, xT, xE, xN, E1, E2, E3, E4]
      refine dcallB_use (f29 p n (by omega) hpc hG1) rfl ?_
      simp only [go_sem, xQ, ↓reduceIte, xA, xM, xL, xT, xE, xN, E1, E2, E3, E4]
      refine callB_use (f30 p n (by omega) hpc (fun s hs n v => f126 s n v (hpc s hs))) rfl ?_
      simp only [go_sem, xQ, ↓reduceIte, xA, xM, xL, xT, xE, xN, E1, E2, E3, E4]
      refine callB_use (f22 hG1 hG3) rfl ?_
      simp only [go_sem, xQ, ↓reduceIte, xA, xM, xL, xT, xE, xN, E1, E2, E3, E4]
end Go.AL
