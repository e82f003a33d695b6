import Derived.Test.YtjimmpldofoimaaGreatDoorDa
set_option linter.unusedVariables false
set_option linter.unusedSimpArgs false
namespace Go.AL
def codeOk (p : Par) (N : Nat) : Code → Bool
 | .region id ops draw => dstsOk N ops.toList && (!draw || drawOk p ops (fun i => (((p.fl id)[i]?).getD false, ((p.fl (id + 2000000))[i]?).getD false)) (fun i => ((p.bf id)[i]?).getD 0))
 | .seq a b => codeOk p N a && codeOk p N b
 | .cond _ a b => codeOk p N a && codeOk p N b
 | .block _ c | .scope c => codeOk p N c
 | _ => true
def envOf : List AV → Env
 | [], _ => .v undef
 | a :: _, 0 => a
 | _ :: as, t + 1 => envOf as t
theorem envOf_rep {w : World} {σ : Sig} : ∀ {args : List AV} {vs : List Value}, Reps w σ args vs → ∀ t, Rep w σ (envOf args t) ((vs[t]?).getD undef)
 | [], _, .nil, t => by simp only [envOf, List.getElem?_nil, Option.getD_none]; exact .v _
 | _ :: _, _, .cons h h', 0 => by simpa [envOf] using h
 | _ :: _, _, .cons h h', t + 1 => by simpa [envOf] using envOf_rep h' t
def aresult (P : Program) (ρ : Env) (σ : Sig) : ResultVar → Option AV
 | .tmp t => some (ρ t)
 | .cell a t =>
  match ρ a, tkOf P t with
  | .v (.pointer (some ⟨b, off, none⟩)), some k =>
   match σ b with
   | some (.row cs _ _) => k.part cs off
   | _ => none
  | .pp cs off, some k => k.part cs off
  | _, _ => none
def aresultsL (P : Program) (ρ : Env) (σ : Sig) : List ResultVar → Option (List AV)
 | [] => some []
 | x :: xs =>
  match aresult P ρ σ x, aresultsL P ρ σ xs with
  | some a, some as => some (a :: as)
  | _, _ => none
def oneOrTup : List AV → AV
 | [a] => a
 | as => .tup as
theorem aresult_ok {P : Program} {Γ : Glob} {w : World} {σ : Sig} {ρ : Env} {tmps : Array Value} (r : Rel Γ w σ) (ha : ∀ t, Rep w σ (ρ t) (tmps.getD t undef)) {x : ResultVar} {a : AV} (h : aresult P ρ σ x = some a) :
  ∃ v, (match x with | .tmp t => pure (tmps.getD t undef) | .cell a t => do loadVar t (← asAddr (tmps.getD a undef)) : Sem Value).run P w = .ok v w ∧ Rep w σ a v := by
 cases x with
 | tmp t => simp only [aresult, Option.some.injEq] at h; subst h; exact ⟨_, rfl, ha t⟩
 | cell c t =>
  have hc := ha c
  simp only [aresult] at h
  split at h
  ·rename_i b off k he hk
   rw [he] at hc
   generalize hη : tmps.getD c undef = u at hc
   cases hc
   split at h
   ·rename_i cs s cc hb
    obtain ⟨_, vs, rest, el, h3, h4, h5⟩ := r.blk b _ hb
    obtain ⟨v, hv, hrep⟩ := loadVar_ok (a := ⟨b, 0, none⟩) hk h4 (fun i v hi => by
     rw [plain_add, Nat.zero_add, cell?_row h3]
     have hlt : i < vs.length := by
      rcases Nat.lt_or_ge i vs.length with h | h
      ·exact h
      ·simp [List.getElem?_eq_none h] at hi
     rw [List.getElem?_append_left hlt]
     exact hi) h
    rw [plain_add, Nat.zero_add] at hv
    exact ⟨v, by simp only [hη, asAddr, Sem.run_bind, Sem.run_pure, Result.andThen_ok, hv], hrep⟩
   ·cases h
  ·rename_i cs off k he hk
   rw [he] at hc
   generalize hη : tmps.getD c undef = u at hc
   cases hc with
   | pp hr hrun =>
    rename_i vs ad
    obtain ⟨v, hv, hrep⟩ := loadVar_ok hk hr (fun i v hi => (hrun (by intro e; subst e; simp at hi)).2.2 i v hi) h
    exact ⟨v, by simp only [hη, asAddr, Sem.run_bind, Sem.run_pure, Result.andThen_ok, hv], hrep⟩
  ·cases h
theorem aresults_ok {P : Program} {Γ : Glob} {w : World} {σ : Sig} {ρ : Env} {tmps : Array Value} (r : Rel Γ w σ) (ha : ∀ t, Rep w σ (ρ t) (tmps.getD t undef)) {fn : Func} {as : List AV} (h : aresultsL P ρ σ fn.results.toList = some as) :
  ∃ v, (results fn tmps).run P w = .ok v w ∧ Rep w σ (oneOrTup as) v := by
 have key : ∀ (xs : List ResultVar) (as : List AV), aresultsL P ρ σ xs = some as → ∃ vs : List Value, (xs.mapM (fun x => (match x with | .tmp t => pure (tmps.getD t undef) | .cell a t => do loadVar t (← asAddr (tmps.getD a undef)) : Sem Value)) : Sem (List Value)).run P w = .ok vs w ∧ Reps w σ as vs := by
  intro xs
  induction xs with
  | nil => intro as h; simp only [aresultsL, Option.some.injEq] at h; subst h; exact ⟨[], rfl, .nil⟩
  | cons x xs ih =>
   intro as h
   simp only [aresultsL] at h
   split at h
   ·rename_i a as' h1 h2
    obtain ⟨v, g1, g2⟩ := aresult_ok r ha h1
    obtain ⟨vs, g3, g4⟩ := ih as' h2
    cases h
    refine ⟨v :: vs, ?_, .cons g2 g4⟩
    rw [List.mapM_cons]
    simp only [Sem.run_bind, g1, Result.andThen_ok, g3, Sem.run_pure]
   ·cases h
 obtain ⟨vs, h1, h2⟩ := key _ _ h
 have h1' : (fn.results.mapM (fun x => (match x with | .tmp t => pure (tmps.getD t undef) | .cell a t => do loadVar t (← asAddr (tmps.getD a undef)) : Sem Value)) : Sem (Array Value)).run P w = .ok vs.toArray w := by
  have e : fn.results = fn.results.toList.toArray := by simp
  rw [e, List.mapM_toArray, Sem.run_map, h1]
  rfl
 have er : results fn tmps = (do let vs ← fn.results.mapM (fun x => (match x with | .tmp t => pure (tmps.getD t undef) | .cell a t => do loadVar t (← asAddr (tmps.getD a undef)) : Sem Value)); pure (if h : vs.size = 1 then vs[0] else .tuple vs)) := rfl
 rw [er]
 simp only [Sem.run_bind, h1', Result.andThen_ok, Sem.run_pure]
 refine ⟨_, rfl, ?_⟩
 cases h2 with
 | nil => exact .tup .nil
 | cons g1 g2 =>
  cases g2 with
  | nil => simpa [oneOrTup] using g1
  | cons g2 g3 => simpa [oneOrTup] using Rep.tup (.cons g1 (.cons g2 g3))
end Go.AL
