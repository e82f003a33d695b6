import Derived.Test.YtjimmpldofoimaaGreatDoorAm
set_option linter.unusedVariables false
set_option linter.unusedSimpArgs false
namespace Go.AL
open Go.Proofs
def Ctl : Blk → Prop
 | .loop _ _ | .obj _ => True
 | _ => False
def Keep (C : Blk → Prop) (σ σ' : Sig) : Prop := ∀ b x, σ b = some x → C x → σ' b = some x
theorem Keep.refl (C : Blk → Prop) (σ : Sig) : Keep C σ σ := fun _ _ h _ => h
theorem Keep.trans {C : Blk → Prop} {σ σ1 σ2 : Sig} (h : Keep C σ σ1) (k : Keep C σ1 σ2) : Keep C σ σ2 := fun b x hb hx => k b x (h b x hb hx) hx
def Stable (D : Blk → Prop) (I : Sig → Prop) : Prop := ∀ σ b y, (σ b = none ∨ ∃ x, σ b = some x ∧ D x) → I σ → I (upd σ b y)
def IterE (P : Program) (Γ : Glob) (D E : Blk → Prop) (f : FuncId) (first captured : List AV) (pre : Sig → Prop) (xs : List AV) : Prop :=
 ∀ (yv : AV) (σ0 : Sig) (I : Nat → Sig → Prop) (K : Sig → Prop), pre σ0 → (∀ k, Stable E (I k)) → Stable E K → I 0 σ0 →
  (∀ k x σ, xs[k]? = some x → I k σ → callB P Γ yv [x] σ fun r σ' => Keep D σ σ' ∧ ((r = .v (.bool true) ∧ I (k + 1) σ') ∨ (r = .v (.bool false) ∧ K σ'))) →
  (∀ σ, I xs.length σ → K σ) → ACalls P Γ f (first ++ [yv] ++ captured) σ0 fun _ σ' => K σ'
def Iter (P : Program) (Γ : Glob) (D : Blk → Prop) (f : FuncId) (first captured : List AV) (pre : Sig → Prop) (xs : List AV) : Prop :=
 ∀ (yv : AV) (σ0 : Sig) (I : Nat → Sig → Prop) (K : Sig → Prop), pre σ0 → (∀ k, Stable D (I k)) → Stable D K → I 0 σ0 →
  (∀ k x σ, xs[k]? = some x → I k σ → callB P Γ yv [x] σ fun r σ' => Keep D σ σ' ∧ ((r = .v (.bool true) ∧ I (k + 1) σ') ∨ (r = .v (.bool false) ∧ K σ'))) →
  (∀ σ, I xs.length σ → K σ) → ACalls P Γ f (first ++ [yv] ++ captured) σ0 fun _ σ' => K σ'
def Closed (D : Blk → Prop) (σ : Sig) (J : Sig → Prop) : Prop := ∀ σ' b y, (σ' b = none ∨ (σ b = none ∧ ∃ x, σ' b = some x ∧ Ctl x) ∨ ∃ x, σ' b = some x ∧ D x) → J σ' → J (upd σ' b y)
theorem loop_as {lp : Loop} (h : lp.state = .ready) (h' : lp.pending = none) : { lp with state := .ready, pending := none } = lp := by
 cases lp
 simp_all
theorem env_range (N : Nat) (ρ : Env) (t : Nat) (ht : t < N) : envOf ((List.range N).map ρ) t = ρ t := by
 have key : ∀ (l : List AV) (t : Nat) (x : AV), l[t]? = some x → envOf l t = x := by
  intro l
  induction l with
  | nil => intro t x h; simp at h
  | cons a l ih =>
   intro t x h
   cases t with
   | zero => simp at h; subst h; rfl
   | succ t => exact ih t x (by simpa using h)
 exact key _ _ _ (by simp [ht])
def KD (D : Blk → Prop) : Blk → Prop := fun x => Ctl x ∨ D x
theorem SemC.rangeE {p : Par} {N : Nat} {g : Operand} {t : Tmp} {assign body : Code} {Q : Post} {ρ : Env} {σ : Sig} {ds : List Nat} {f : FuncId} {first captured : List AV} {xs : List AV} {D E : Blk → Prop} {pre : Sig → Prop}
  (hm : p.P.follows .mixedOrders = true) (hfv : aev p.Γ ρ g = .fn (.func f) first captured) (hit : IterE p.P p.Γ D E f first captured pre xs) (ht : t < N) (ok1 : codeOk p N assign = true) (ok2 : codeOk p N body = true)
  (hDC : ∀ x, D x → ¬ Ctl x) (hEC : ∀ x, E x → ¬ Ctl x) (hpre : ∀ b1 b2 x y, σ b1 = none → σ b2 = none → pre (upd (upd σ b1 (some x)) b2 (some y)))
  (J : Nat → Sig → Prop) (R : Exit → Sig → Prop) (A : Nat → AV → Env → Sig → Prop)
  (hJ : ∀ k, Closed E σ (J k)) (hR : ∀ e, Closed E σ (R e)) (hA : ∀ k x ρ, Closed E σ (A k x ρ)) (h0 : J 0 σ)
  (asg : ∀ k x E σ' l, (∀ i, i < N → E i = ρ i) → xs[k]? = some x → J k σ' → codeW p (some l) N assign (fun e ρ1 σ1 ds1 => e = .normal ∧ ds1 = [] ∧ Keep (KD D) σ' σ1 ∧ A k x ρ1 σ1) (upd E t x) σ' [])
  (rnd : ∀ k x ρ1 σ' l, xs[k]? = some x → A k x ρ1 σ' → codeW p (some l) N body (fun e ρ2 σ2 ds2 => Keep (KD D) σ' σ2 ∧ match e with
   | .normal => J (k + 1) σ2
   | .ret => R .ret σ2
   | .exit id => R (.exit id) σ2
   | _ => False) ρ1 σ' [])
  (fin : ∀ σ' r, σ r = none → J xs.length σ' → σ' r = some (.obj (.deferred (some []))) → Q .normal ρ σ' (r :: ds))
  (finR : ∀ e σ' r, σ r = none → R e σ' → σ' r = some (.obj (.deferred (some []))) → Q e ρ σ' (r :: ds)) : SemC p none N (.rangeFunc g #[t] assign body) Q ρ σ ds := by
 refine SemC.rangeFunc hfv (fun r l lp hr hl hlr hps has hbd hst hpe htm => ?_)
 subst has
 subst hbd
 have hcs : ∀ i, i < N → envOf ((List.range N).map ρ) i = ρ i := fun i hi => env_range N ρ i hi
 generalize (List.range N).map ρ = cs at hcs
 have hrl : ¬ r = l := fun e => hlr e.symm
 have hlst := loop_as hst hpe
 have nD : ∀ lp cs, ¬ D (.loop lp cs) := fun lp cs h => hDC _ h trivial
 have nE : ∀ lp cs, ¬ E (.loop lp cs) := fun lp cs h => hEC _ h trivial
 have nEo : ∀ o, ¬ E (.obj o) := fun o h => hEC _ h trivial
 refine (hit (.fn (.yield l) [] []) _ (fun k σ' => J k σ' ∧ σ' l = some (.loop lp cs) ∧ σ' r = some (.obj (.deferred (some []))))
  (fun σ' => ∃ st pend cs, σ' l = some (.loop { lp with state := st, pending := pend } cs) ∧ st ≠ .busy ∧ σ' r = some (.obj (.deferred (some []))) ∧ match pend with
   | none => J xs.length σ'
   | some .ret => R .ret σ'
   | some (.exit id) => R (.exit id) σ'
   | _ => False) (hpre _ _ _ _ hr hl) ?_ ?_ ?_ ?_ ?_).mono ?_
 ·intro k σ' b y hb ⟨h1, h2, h3⟩
  have hbl : ¬ l = b := fun e => by
   subst e
   rcases hb with h | ⟨x, h, hd⟩
   ·rw [h2] at h; cases h
   ·rw [h2] at h; cases h; exact nE _ _ hd
  have hbr : ¬ r = b := fun e => by
   subst e
   rcases hb with h | ⟨x, h, hd⟩
   ·rw [h3] at h; cases h
   ·rw [h3] at h; cases h; exact nEo _ hd
  refine ⟨hJ k σ' b y ?_ h1, by rw [upd_ne _ _ _ _ hbl]; exact h2, by rw [upd_ne _ _ _ _ hbr]; exact h3⟩
  rcases hb with h | h
  ·exact .inl h
  ·exact .inr (.inr h)
 ·intro σ' b y hb ⟨st, pend, cs', h2, hst', h3, h1⟩
  have hbl : ¬ l = b := fun e => by
   subst e
   rcases hb with h | ⟨x, h, hd⟩
   ·rw [h2] at h; cases h
   ·rw [h2] at h; cases h; exact nE _ _ hd
  have hbr : ¬ r = b := fun e => by
   subst e
   rcases hb with h | ⟨x, h, hd⟩
   ·rw [h3] at h; cases h
   ·rw [h3] at h; cases h; exact nEo _ hd
  refine ⟨st, pend, cs', by rw [upd_ne _ _ _ _ hbl]; exact h2, hst', by rw [upd_ne _ _ _ _ hbr]; exact h3, ?_⟩
  have hc : σ' b = none ∨ (σ b = none ∧ ∃ x, σ' b = some x ∧ Ctl x) ∨ ∃ x, σ' b = some x ∧ E x := by
   rcases hb with h | h
   ·exact .inl h
   ·exact .inr (.inr h)
  cases pend with
  | none => exact hJ _ σ' b y hc h1
  | some e =>
   cases e with
   | ret => exact hR _ σ' b y hc h1
   | exit id => exact hR _ σ' b y hc h1
   | _ => exact h1.elim
 ·refine ⟨hJ 0 _ l _ (.inl ?_) (hJ 0 _ r _ (.inl hr) h0), upd_same _ _ _, by rw [upd_ne _ _ _ _ hrl, upd_same]⟩
  rw [upd_ne _ _ _ _ hlr]; exact hl
 ·intro k x σ' hx ⟨h1, h2, h3⟩
  refine yield_call (p := p) (N := N) (lp := lp) h2 hps hst htm ht ?_
  refine SemC.mono (codeW_sound (p := p) hm _ _ _ _ _ ok1 (asg k x _ σ' l hcs hx h1)) ?_
  rintro e ρ1 σ1 ds1 ⟨rfl, rfl, hk1, ha⟩
  have l1 := hk1 l _ h2 (.inl trivial)
  have r1 := hk1 r _ h3 (.inl trivial)
  refine ⟨rfl, cs, l1, ?_⟩
  have ha' : A k x ρ1 (upd σ1 l (some (.loop { lp with state := .busy } cs))) := hA k x ρ1 σ1 l _ (.inr (.inl ⟨hl, _, l1, trivial⟩)) ha
  refine SemC.mono (codeW_sound (p := p) hm _ _ _ _ _ ok2 (rnd k x ρ1 _ l hx ha')) ?_
  rintro e ρ2 σ2 ds2 ⟨hk2, he⟩
  have l2 := hk2 l _ (upd_same _ _ _) (.inl trivial)
  have r2 := hk2 r _ ((upd_ne _ _ _ _ hrl).trans r1) (.inl trivial)
  refine ⟨cs, l2, ?_⟩
  have hkd : ∀ y, Keep D σ' (upd σ2 l y) := fun y b x hb hx => by
   have hbl : ¬ b = l := fun e => by subst e; rw [h2] at hb; cases hb; exact nD _ _ hx
   rw [upd_ne _ _ _ _ hbl]
   exact hk2 b x (by rw [upd_ne _ _ _ _ hbl]; exact hk1 b x hb (.inr hx)) (.inr hx)
  have hcl : σ2 l = none ∨ (σ l = none ∧ ∃ x, σ2 l = some x ∧ Ctl x) ∨ ∃ x, σ2 l = some x ∧ E x := .inr (.inl ⟨hl, _, l2, trivial⟩)
  cases e with
  | normal =>
   refine ⟨hkd _, .inl ⟨rfl, hJ _ σ2 l _ hcl he, ?_, ?_⟩⟩
   ·rw [upd_same, hlst]
   ·rw [upd_ne _ _ _ _ hrl]; exact r2
  | ret =>
   refine ⟨hkd _, .inr ⟨rfl, _, _, _, upd_same _ _ _, by simp, ?_, hR _ σ2 l _ hcl he⟩⟩
   rw [upd_ne _ _ _ _ hrl]; exact r2
  | exit id =>
   refine ⟨hkd _, .inr ⟨rfl, _, _, _, upd_same _ _ _, by simp, ?_, hR _ σ2 l _ hcl he⟩⟩
   rw [upd_ne _ _ _ _ hrl]; exact r2
  | _ => exact he.elim
 ·rintro σ' ⟨h1, h2, h3⟩
  exact ⟨lp.state, lp.pending, cs, h2, by rw [hst]; simp, h3, by rw [hpe]; exact h1⟩
 ·rintro _ σ' ⟨st, pend, cs', h2, hst', h3, h1⟩
  refine ⟨st, pend, cs', h2, hst', ?_⟩
  have hcl : σ' l = none ∨ (σ l = none ∧ ∃ x, σ' l = some x ∧ Ctl x) ∨ ∃ x, σ' l = some x ∧ E x := .inr (.inl ⟨hl, _, h2, trivial⟩)
  have h3' : ers σ' l r = some (.obj (.deferred (some []))) := by rw [ers_ne _ _ _ hrl]; exact h3
  cases pend with
  | none => exact fin _ r hr (show J xs.length (ers σ' l) from hJ _ σ' l none hcl h1) h3'
  | some e =>
   cases e with
   | ret => exact finR _ _ r hr (show R _ (ers σ' l) from hR _ σ' l none hcl h1) h3'
   | exit id => exact finR _ _ r hr (show R _ (ers σ' l) from hR _ σ' l none hcl h1) h3'
   | _ => exact h1.elim
theorem SemC.rangeL {p : Par} {N : Nat} {g : Operand} {t : Tmp} {assign body : Code} {Q : Post} {ρ : Env} {σ : Sig} {ds : List Nat} {f : FuncId} {first captured : List AV} {xs : List AV} {D : Blk → Prop} {pre : Sig → Prop}
  (hm : p.P.follows .mixedOrders = true) (hfv : aev p.Γ ρ g = .fn (.func f) first captured) (hit : Iter p.P p.Γ D f first captured pre xs) (ht : t < N) (ok1 : codeOk p N assign = true) (ok2 : codeOk p N body = true)
  (hDC : ∀ x, D x → ¬ Ctl x) (hpre : ∀ b1 b2 x y, σ b1 = none → σ b2 = none → pre (upd (upd σ b1 (some x)) b2 (some y)))
  (J : Nat → Sig → Prop) (R : Exit → Sig → Prop) (A : Nat → AV → Env → Sig → Prop)
  (hJ : ∀ k, Closed D σ (J k)) (hR : ∀ e, Closed D σ (R e)) (hA : ∀ k x ρ, Closed D σ (A k x ρ)) (h0 : J 0 σ)
  (asg : ∀ k x E σ' l, (∀ i, i < N → E i = ρ i) → xs[k]? = some x → J k σ' → codeW p (some l) N assign (fun e ρ1 σ1 ds1 => e = .normal ∧ ds1 = [] ∧ Keep (KD D) σ' σ1 ∧ A k x ρ1 σ1) (upd E t x) σ' [])
  (rnd : ∀ k x ρ1 σ' l, xs[k]? = some x → A k x ρ1 σ' → codeW p (some l) N body (fun e ρ2 σ2 ds2 => Keep (KD D) σ' σ2 ∧ match e with
   | .normal => J (k + 1) σ2
   | .ret => R .ret σ2
   | .exit id => R (.exit id) σ2
   | _ => False) ρ1 σ' [])
  (fin : ∀ σ' r, σ r = none → J xs.length σ' → σ' r = some (.obj (.deferred (some []))) → Q .normal ρ σ' (r :: ds))
  (finR : ∀ e σ' r, σ r = none → R e σ' → σ' r = some (.obj (.deferred (some []))) → Q e ρ σ' (r :: ds)) : SemC p none N (.rangeFunc g #[t] assign body) Q ρ σ ds :=
 SemC.rangeE (E := D) hm hfv hit ht ok1 ok2 hDC hDC hpre J R A hJ hR hA h0 asg rnd fin finR
section
variable {D : Blk → Prop} {σ : Sig}
theorem closed_ne {σ σ' : Sig} {b b' : Nat} {cs : List AV} {s c : Nat} (hD : ¬ D (.row cs s c)) (h : σ' b = none ∨ (σ b = none ∧ ∃ x, σ' b = some x ∧ Ctl x) ∨ ∃ x, σ' b = some x ∧ D x) (hb : σ' b' = some (.row cs s c)) : ¬ b' = b := fun e => by
 subst e
 rcases h with h | ⟨_, x, h, hx⟩ | ⟨x, h, hx⟩
 ·rw [h] at hb; cases hb
 ·rw [h] at hb; cases hb; exact hx
 ·rw [h] at hb; cases hb; exact hD hx
theorem Closed.and {I J : Sig → Prop} (h : Closed D σ I) (k : Closed D σ J) : Closed D σ fun σ' => I σ' ∧ J σ' := fun σ' b y hb ⟨h1, h2⟩ => ⟨h σ' b y hb h1, k σ' b y hb h2⟩
theorem Closed.ex {α : Type} {I : α → Sig → Prop} (h : ∀ a, Closed D σ (I a)) : Closed D σ fun σ' => ∃ a, I a σ' := fun σ' b y hb ⟨a, h1⟩ => ⟨a, h a σ' b y hb h1⟩
theorem Closed.const (q : Prop) : Closed D σ fun _ => q := fun _ _ _ _ h => h
theorem Closed.row {b' : Nat} {cs : List AV} {s c : Nat} (hD : ¬ D (.row cs s c)) : Closed D σ fun σ' => σ' b' = some (.row cs s c) := fun σ' b y hb h => by
 show upd σ' b y b' = _
 rw [upd_ne _ _ _ _ (closed_ne hD hb h)]; exact h
theorem Closed.map {b' : Nat} {es : List (AV × AV)} (hD : ¬ D (.map es)) : Closed D σ fun σ' => σ' b' = some (.map es) := fun σ' b y hb h => by
 show upd σ' b y b' = _
 have h : σ' b' = some (.map es) := h
 rw [upd_ne]
 ·exact h
 ·intro e
  subst e
  rcases hb with h' | ⟨_, x, h', hx⟩ | ⟨x, h', hx⟩
  ·rw [h] at h'; cases h'
  ·rw [h] at h'; cases h'; exact hx
  ·rw [h] at h'; cases h'; exact hD hx
theorem Closed.drop {σ0 : Sig} (hd : Drop σ σ0) (hD : ∀ b x, σ0 b = some x → ¬ D x) : Closed D σ fun σ' => Drop σ' σ0 := fun σ' b y hb h => by
 have hb0 : σ0 b = none := by
  rcases hb with h1 | ⟨h1, _⟩ | ⟨x, h1, hx⟩
  ·exact h.free h1
  ·exact hd.free h1
  ·rcases h b with h2 | h2
   ·exact h2
   ·rw [h1] at h2; exact absurd hx (hD b x h2)
 exact h.upd hb0
theorem Closed.grow {σ0 : Sig} {s n : Nat} {a : AV} {cs : List AV} (hD : ∀ c, ¬ D (.row cs s c)) : Closed D σ fun σ' => Grow σ0 σ' s a cs n := fun σ' b y hb h => by
 rcases h with h | ⟨b', c, h0, h1, h2, h3⟩
 ·exact .inl h
 ·exact .inr ⟨b', c, h0, h1, by rw [upd_ne _ _ _ _ (closed_ne (hD c) hb h2)]; exact h2, h3⟩
end
def noD : Blk → Prop := fun _ => False
theorem noD_ctl : ∀ x, noD x → ¬ Ctl x := fun _ h => h.elim
theorem Keep.upd {C : Blk → Prop} {σ σ' : Sig} {b : Nat} {y : Option Blk} (h : Keep C σ σ') (hb : ∀ x, σ b = some x → ¬ C x) : Keep C σ (AL.upd σ' b y) := fun i x hi hx => by
 have : ¬ i = b := fun e => by subst e; exact hb x hi hx
 rw [upd_ne _ _ _ _ this]
 exact h i x hi hx
theorem keep_none {C : Blk → Prop} {σ : Sig} {b : Nat} (h : σ b = none) : ∀ x, σ b = some x → ¬ C x := fun x hx => by rw [h] at hx; cases hx
theorem keep_row {D : Blk → Prop} {σ : Sig} {b : Nat} {cs : List AV} {s c : Nat} (h : σ b = some (.row cs s c)) (hD : ¬ D (.row cs s c)) : ∀ x, σ b = some x → ¬ KD D x := fun x hx => by
 rw [h] at hx
 cases hx
 rintro (k | k)
 ·exact k
 ·exact hD k
theorem retPost_one {P : Program} {rs : List ResultVar} {K : AV → Sig → Prop} {ρ : Env} {σ : Sig} {r : Nat} : RetPost P rs K .ret ρ σ [r] = andB (σ r = some (.obj (.deferred (some [])))) (optB (aresultsL P ρ (ers σ r) rs) fun xs => K (oneOrTup xs) (ers σ r)) :=
 propext ⟨fun h => ⟨h.mark r (by simp), optB_iff.2 h.out⟩, fun h => ⟨.inr rfl, fun b hb => by rw [List.mem_singleton.1 hb]; exact h.1, by simp, optB_iff.1 h.2⟩⟩
theorem retPost_oneN {P : Program} {rs : List ResultVar} {K : AV → Sig → Prop} {ρ : Env} {σ : Sig} {r : Nat} : RetPost P rs K .normal ρ σ [r] = andB (σ r = some (.obj (.deferred (some [])))) (optB (aresultsL P ρ (ers σ r) rs) fun xs => K (oneOrTup xs) (ers σ r)) :=
 propext ⟨fun h => ⟨h.mark r (by simp), optB_iff.2 h.out⟩, fun h => ⟨.inl rfl, fun b hb => by rw [List.mem_singleton.1 hb]; exact h.1, by simp, optB_iff.1 h.2⟩⟩
theorem ers_at' (σ : Sig) (b i : Nat) : ers σ b i = if i = b then none else σ i := nr rfl
theorem Drop.ersX {σ σ' : Sig} {b : Nat} (h : Drop σ' σ) (hb : σ b = none) : Drop (AL.ers σ' b) σ := fun i => by
 by_cases hi : i = b
 ·subst hi; exact .inl hb
 ·rw [ers_ne _ _ _ hi]; exact h i
theorem nn {σ : Sig} {b b' : Nat} {x : Blk} (h : σ b = none) (h' : σ b' = some x) : ¬ b' = b := fun e => by rw [e, h] at h'; cases h'
theorem un {σ : Sig} {k i : Nat} {x : Blk} (h : upd σ k (some x) i = none) : ¬ i = k ∧ σ i = none := by
 have hne : ¬ i = k := fun e => by subst e; rw [upd_same] at h; cases h
 exact ⟨hne, by rwa [upd_ne _ _ _ _ hne] at h⟩
theorem Grow.cellsX {σ0 σ : Sig} {s n : Nat} {a : AV} {cs : List AV} (h : Grow σ0 σ s a cs n) : a.cells? = some [a] := by
 rcases h with ⟨h, _⟩ | ⟨b, c, rfl, _⟩
 ·rcases h with rfl | rfl <;> rfl
 ·rfl
theorem Grow.oneX {σ0 σ : Sig} {s n : Nat} {a : AV} {cs : List AV} (h : Grow σ0 σ s a cs n) : a.one = true := by
 rcases h with ⟨h, _⟩ | ⟨b, c, rfl, _⟩
 ·rcases h with rfl | rfl <;> rfl
 ·rfl
theorem Grow.updF {σ0 σ : Sig} {s n b : Nat} {a : AV} {cs : List AV} {x : Option Blk} (h : Grow σ0 σ s a cs n) (hb : σ b = none) : Grow σ0 (AL.upd σ b x) s a cs n := h.upd hb
theorem Grow.neC {σ0 σ : Sig} {s n b : Nat} {a : AV} {cs cs' : List AV} {s' c' : Nat} (h : Grow σ0 σ s a cs n) (hb : σ b = some (.row cs' s' c')) (hne : cs ≠ cs') : ∀ s1 o m, a ≠ .own b s1 o m := fun s1 o m e => by
 rcases h with ⟨h, _⟩ | ⟨b', c, h0, h1, h2, h3⟩
 ·rcases h with h | h <;> rw [h] at e <;> cases e
 ·rw [h0] at e
  cases e
  rw [hb] at h2
  cases h2
  exact hne rfl
theorem Grow.updW {σ0 σ : Sig} {s n b : Nat} {a : AV} {cs : List AV} (h : Grow σ0 σ s a cs n) (hne : ∀ s1 o m, a ≠ .own b s1 o m) (x : Option Blk) : Grow σ0 (AL.upd σ b x) s a cs n := by
 rcases h with h | ⟨b0, c, h0, h1, h2, h3⟩
 ·exact .inl h
 ·have : b0 ≠ b := fun e => hne s 0 n (by rw [h0, e])
  exact .inr ⟨b0, c, h0, h1, by simp [AL.upd, this, h2], h3⟩
theorem dn {σ : Sig} {r b : Nat} {cs : List AV} {s c : Nat} {o : Obj} (h : σ r = some (.obj o)) (h' : σ b = some (.row cs s c)) : ¬ b = r := fun e => by rw [e, h] at h'; cases h'
theorem rn {σ : Sig} {b b' : Nat} {cs cs' : List AV} {s c s' c' : Nat} (h : σ b = some (.row cs s c)) (h' : σ b' = some (.row cs' s' c')) (hs : s ≠ s') : ¬ b = b' := fun e => by rw [e, h'] at h; cases h; exact hs rfl
end Go.AL
