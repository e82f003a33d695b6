import Derived.Test.YtjimmpldofoimaaGreatDoorAlCode
set_option linter.unusedVariables false
set_option linter.unusedSimpArgs false
namespace Go.AL
abbrev Post := Exit → Env → Sig → List Nat → Prop
def marks (ds : List Nat) : List Deferred := ds.map fun r => { target := .collected r, args := #[] }
structure CPost (Γ : Glob) (N : Nat) (w : World) (σ : Sig) (Q : Post) (e : Exit) (a' : Act) (w' : World) : Prop where
 out : ∃ ρ' σ' ds', Q e ρ' σ' ds' ∧ Rel Γ w' σ' ∧ Act.Is w' σ' ρ' a' ∧ Ext w σ w' σ' ∧ a'.defers = marks ds'
 size : a'.tmps.size = N
def SemC (p : Par) (ro : Option Nat) (N : Nat) (c : Code) (Q : Post) (ρ : Env) (σ : Sig) (ds : List Nat) : Prop :=
 ∀ a w, Rel p.Γ w σ → Act.Is w σ ρ a → a.tmps.size = N → a.defers = marks ds → c.wpIn (FF ro) 0 p.P (CPost p.Γ N w σ Q) a w
theorem CPost.ext {Γ : Glob} {N : Nat} {w w1 : World} {σ σ1 : Sig} {Q : Post} {e : Exit} {a' : Act} {w' : World} (h : CPost Γ N w1 σ1 Q e a' w') (x : Ext w σ w1 σ1) : CPost Γ N w σ Q e a' w' := by
 obtain ⟨ρ', σ', ds', h1, h2, h3, h4, h5⟩ := h.out
 exact ⟨⟨ρ', σ', ds', h1, h2, h3, x.trans h4, h5⟩, h.size⟩
theorem CPost.mono {Γ : Glob} {N : Nat} {w : World} {σ : Sig} {Q Q' : Post} {e : Exit} {a' : Act} {w' : World} (h : CPost Γ N w σ Q e a' w') (hq : ∀ ρ σ ds, Q e ρ σ ds → Q' e ρ σ ds) : CPost Γ N w σ Q' e a' w' := by
 obtain ⟨ρ', σ', ds', h1, h2, h3, h4, h5⟩ := h.out
 exact ⟨⟨ρ', σ', ds', hq _ _ _ h1, h2, h3, h4, h5⟩, h.size⟩
theorem SemC.mono {p : Par} {ro : Option Nat} {N : Nat} {c : Code} {Q Q' : Post} {ρ : Env} {σ : Sig} {ds : List Nat} (h : SemC p ro N c Q ρ σ ds) (hq : ∀ e ρ σ ds, Q e ρ σ ds → Q' e ρ σ ds) : SemC p ro N c Q' ρ σ ds :=
 fun a w r ha hn hd => wpIn_mono (h a w r ha hn hd) fun e a' w' h => h.mono (hq e)
def athen (next : Env → Sig → List Nat → Prop) (Q : Post) : Post
 | .normal, ρ, σ, ds => next ρ σ ds
 | e, ρ, σ, ds => Q e ρ σ ds
def ablock (id : Nat) (Q : Post) : Post
 | .exit id', ρ, σ, ds => if id' = id then Q .normal ρ σ ds else Q (.exit id') ρ σ ds
 | e, ρ, σ, ds => Q e ρ σ ds
def anoGoto (Q : Post) : Post
 | .goto _, _, _, _ => False
 | e, ρ, σ, ds => Q e ρ σ ds
section rules
variable {p : Par} {ro : Option Nat} {N : Nat} {Q : Post} {ρ : Env} {σ : Sig} {ds : List Nat}
theorem SemC.skip (h : Q .normal ρ σ ds) : SemC p ro N .skip Q ρ σ ds := fun a w r ha hn hd => wpIn_skip ⟨⟨ρ, σ, ds, h, r, ha, Ext.refl _ _, hd⟩, hn⟩
theorem SemC.label {l : Nat} (h : Q .normal ρ σ ds) : SemC p ro N (.label l) Q ρ σ ds := fun a w r ha hn hd => wpIn_label ⟨⟨ρ, σ, ds, h, r, ha, Ext.refl _ _, hd⟩, hn⟩
theorem SemC.exit {id : Nat} (h : Q (.exit id) ρ σ ds) : SemC p ro N (.exit id) Q ρ σ ds := fun a w r ha hn hd => wpIn_exit ⟨⟨ρ, σ, ds, h, r, ha, Ext.refl _ _, hd⟩, hn⟩
theorem SemC.ret (h : Q .ret ρ σ ds) : SemC p ro N .ret Q ρ σ ds := fun a w r ha hn hd => wpIn_ret ⟨⟨ρ, σ, ds, h, r, ha, Ext.refl _ _, hd⟩, hn⟩
theorem SemC.seq {x y : Code} (h : SemC p ro N x (athen (SemC p ro N y Q) Q) ρ σ ds) : SemC p ro N (.seq x y) Q ρ σ ds := fun a w r ha hn hd => by
 refine wpIn_seq (wpIn_mono (h a w r ha hn hd) fun e a' w' hp => ?_)
 cases e with
 | normal =>
  obtain ⟨ρ', σ', ds', h1, h2, h3, h4, h5⟩ := hp.out
  exact wpIn_mono (h1 a' w' h2 h3 hp.size h5) fun e a'' w'' hp' => hp'.ext h4
 | _ => exact ⟨hp.out, hp.size⟩
theorem SemC.cond {c : Operand} {x y : Code} {t : Bool} (hc : aev p.Γ ρ c = .v (.bool t)) (ht : t = true → SemC p ro N x Q ρ σ ds) (hf : t = false → SemC p ro N y Q ρ σ ds) : SemC p ro N (.cond c x y) Q ρ σ ds := fun a w r ha hn hd => by
 have hv : a.eval c = .bool t := by
  have := ha.eval r c
  rw [hc] at this
  generalize a.eval c = u at this
  cases this
  rfl
 exact wpIn_cond_split hv (fun e => ht e a w r ha hn hd) (fun e => hf e a w r ha hn hd)
theorem SemC.block {id : Nat} {c : Code} (h : SemC p ro N c (ablock id Q) ρ σ ds) : SemC p ro N (.block id c) Q ρ σ ds := fun a w r ha hn hd => by
 refine wpIn_block (wpIn_mono (h a w r ha hn hd) fun e a' w' hp => ?_)
 cases e with
 | exit id' =>
  simp only [Exit.inBlock]
  obtain ⟨ρ', σ', ds', h1, h2, h3, h4, h5⟩ := hp.out
  simp only [ablock] at h1
  by_cases hid : id' = id
  ·rw [if_pos hid] at h1 ⊢; exact ⟨⟨ρ', σ', ds', h1, h2, h3, h4, h5⟩, hp.size⟩
  ·rw [if_neg hid] at h1 ⊢; exact ⟨⟨ρ', σ', ds', h1, h2, h3, h4, h5⟩, hp.size⟩
 | _ => exact ⟨hp.out, hp.size⟩
theorem stepR_scope {P : Program} {b : Frame} {a : Act} {k : List Item} {cs : List Frame} {w : World} {c : Code} : step P (lone (b.atR a (.code (.scope c) :: k)) cs w) = .next (lone (b.atR a (.code c :: .inScope c :: k)) cs w) :=
 step_lone_go (by simp [stepG, stepG.exec, Frame.atR])
theorem stepR_inScope {P : Program} {b : Frame} {a : Act} {k : List Item} {cs : List Frame} {w : World} {c : Code} : step P (lone (b.atR a (.inScope c :: k)) cs w) = .next (lone (b.atR a k) cs w) :=
 step_lone_go (by simp [stepG, stepG.exec, Frame.atR])
theorem wpIn_scope {F : Fence} {n : Nat} {P : Program} {Q : Exit → Act → World → Prop} {a : Act} {w : World} {c : Code} (h : c.wpIn F n P (Exit.noGoto Q) a w) : (Code.scope c).wpIn F n P Q a w := by
 intro b k cs hro hb hr
 have h0 : (lone (b.atR a (.code (.scope c) :: k)) cs w).fenced P F := fenced_calm hb hr rfl
 obtain ⟨e, a₁, w₁, hq, harr⟩ := h b (.inScope c :: k) cs hro hb hr
 cases e with
 | normal => exact ⟨.normal, a₁, w₁, hq, .head h0 stepR_scope (StepsIn.trans harr (.one (fenced_calm hb hr rfl) stepR_inScope))⟩
 | exit id =>
  have hx : exitTo id (.inScope c :: k) = exitTo id k := by simp [exitTo]
  exact ⟨.exit id, a₁, w₁, hq, fun k' hk => .head h0 stepR_scope (harr.1 k' (by rw [hx]; exact hk)),
   fun hr' hk => let ⟨k₁, h1, h2⟩ := harr.2 hr' (by rw [hx]; exact hk); ⟨k₁, h1, .head h0 stepR_scope h2⟩⟩
 | goto l => exact hq.elim
 | ret => exact ⟨_, a₁, w₁, hq, .of_steps (.one h0 stepR_scope) harr⟩
 | panic ch => exact ⟨_, a₁, w₁, hq, .of_steps (.one h0 stepR_scope) harr⟩
 | outgrown => exact ⟨_, a₁, w₁, hq, .of_steps (.one h0 stepR_scope) harr⟩
theorem SemC.scope {c : Code} (h : SemC p ro N c (anoGoto Q) ρ σ ds) : SemC p ro N (.scope c) Q ρ σ ds := fun a w r ha hn hd => by
 refine wpIn_scope (wpIn_mono (h a w r ha hn hd) fun e a' w' hp => ?_)
 cases e with
 | goto l => obtain ⟨ρ', σ', ds', h1, _⟩ := hp.out; exact h1.elim
 | _ => exact ⟨hp.out, hp.size⟩
theorem SemC.region {id : Nat} {ops : Array Oper} (hd : dstsOk N ops.toList = true) (h : aops p ops.toList ops.toList (fun ρ σ => Q .normal ρ σ ds) ρ σ) : SemC p ro N (.region id ops false) Q ρ σ ds := fun a w r ha hn hds => by
 refine wpIn_region ?_
 have := aops_sound (ro := ro) ops.toList 0 (by simp) h r ha (by rw [hn]; exact hd)
 rw [← List.range_eq_range', Array.length_toList] at this
 refine wpOpsIn_post (fun e a' w' ⟨h1, h2⟩ => ?_) _ _ _ this
 subst h1
 obtain ⟨ρ', σ', g1, g2, g3, g4⟩ := h2.out
 exact ⟨⟨ρ', σ', ds, g1, g2, g3, g4, h2.defers.trans hds⟩, h2.size.trans hn⟩
theorem SemC.loop {c : Code} (I : Nat → Env → Sig → List Nat → Prop) (n : Nat) (h0 : I n ρ σ ds)
  (round : ∀ n ρ σ ds, I n ρ σ ds → SemC p ro N c (athen (fun ρ' σ' ds' => ∃ m, m < n ∧ I m ρ' σ' ds') Q) ρ σ ds) : SemC p ro N (.loop c) Q ρ σ ds := by
 intro a w r ha hn hd b k cs hro hb hr
 have key : ∀ n ρ σ ds a w0, I n ρ σ ds → Rel p.Γ w0 σ → Act.Is w0 σ ρ a → a.tmps.size = N → a.defers = marks ds →
   ∃ e a' w', CPost p.Γ N w0 σ Q e a' w' ∧ ArrivesIn (Machine.fenced p.P (FF ro)) p.P (lone (b.atR a (.code c :: .inLoop c :: k)) cs w0) b k cs e a' w' := by
  intro n
  induction n using Nat.strongRecOn with
  | _ n ih =>
   intro ρ σ ds a w0 hI r ha hn hd
   obtain ⟨e, a₁, w₁, hq, harr⟩ := round n ρ σ ds hI a w0 r ha hn hd b (.inLoop c :: k) cs hro hb hr
   cases e with
   | normal =>
    obtain ⟨ρ', σ', ds', ⟨m, hm, hI'⟩, h2, h3, h4, h5⟩ := hq.out
    obtain ⟨e₂, a₂, w₂, hq₂, harr₂⟩ := ih m hm ρ' σ' ds' a₁ w₁ hI' h2 h3 hq.size h5
    exact ⟨e₂, a₂, w₂, hq₂.ext h4, .of_steps (StepsIn.trans harr (.one (fenced_calm hb hr rfl) stepR_inLoop)) harr₂⟩
   | exit id => exact ⟨_, a₁, w₁, ⟨hq.out, hq.size⟩, .pass (x := .inLoop c) rfl (fun _ _ => .inl (by simp)) harr⟩
   | goto l => exact ⟨_, a₁, w₁, ⟨hq.out, hq.size⟩, .pass (x := .inLoop c) rfl (fun _ _ => .inl (by simp)) harr⟩
   | ret => exact ⟨_, a₁, w₁, ⟨hq.out, hq.size⟩, .pass (x := .inLoop c) rfl (fun _ _ => .inl (by simp)) harr⟩
   | panic ch => exact ⟨_, a₁, w₁, ⟨hq.out, hq.size⟩, .pass (x := .inLoop c) rfl (fun _ _ => .inl (by simp)) harr⟩
   | outgrown => exact ⟨_, a₁, w₁, ⟨hq.out, hq.size⟩, .pass (x := .inLoop c) rfl (fun _ _ => .inl (by simp)) harr⟩
 obtain ⟨e, a', w', hq, harr⟩ := key n ρ σ ds a w h0 r ha hn hd
 exact ⟨e, a', w', hq, .of_steps (.one (fenced_calm hb hr rfl) stepR_loop) harr⟩
end rules
end Go.AL
