import Derived.Test.YtjimmpldofoimaaGreatDoorAlFun
set_option linter.unusedVariables false
set_option linter.unusedSimpArgs false
namespace Go.AL
def dropAll : List Nat → Sig → Sig
 | [], σ => σ
 | r :: ds, σ => dropAll ds (ers σ r)
structure RetPost (P : Program) (rs : List ResultVar) (K : AV → Sig → Prop) (e : Exit) (ρ : Env) (σ : Sig) (ds : List Nat) : Prop where
 exit : e = .normal ∨ e = .ret
 mark : ∀ r ∈ ds, σ r = some (.obj (.deferred (some [])))
 nodup : ds.Nodup
 out : ∃ as, aresultsL P ρ (dropAll ds σ) rs = some as ∧ K (oneOrTup as) (dropAll ds σ)
section
variable {P : Program} {Γ : Glob}
theorem leave_marks {fn : Func} {R : Ending → World → Prop} {ρ : Env} {a : Act} : ∀ (ds : List Nat) (w : World) (σ : Sig), Rel Γ w σ → Act.Is w σ ρ a → (∀ r ∈ ds, σ r = some (.obj (.deferred (some [])))) → ds.Nodup →
  (∀ w', Rel Γ w' (dropAll ds σ) → Act.Is w' (dropAll ds σ) ρ a → Ext w σ w' (dropAll ds σ) → ∃ v, (results fn a.tmps).run P w' = .ok v w' ∧ R (.returned v) w') → LeavesInM Fence.wide 0 P fn a.tmps R (marks ds) .returning w
 | [], w, σ, r, ha, _, _, h => by
  obtain ⟨v, h1, h2⟩ := h w r ha (Ext.refl _ _)
  exact ⟨v, h1, h2⟩
 | r :: ds, w, σ, hr, ha, hm, hn, h => by
  have hb := hm r (by simp)
  have hblk : w.heap[r]? = some (.deferred (some [])) := (hr.blk r _ hb).2
  have htake := run_takeDeferred (P := P) hblk
  have hWr : Wr w (w.putObj r (.deferred none)) r := ⟨World.putObj_size, fun k hk => World.putObj_heap_other hk, rfl, rfl, rfl⟩
  have e1 := Ext.write (σ := σ) (x := .obj (.deferred none)) hWr ⟨_, hb, fun _ _ _ e => by cases e⟩
  have r1 := hr.write (x := .obj (.deferred none)) hWr ⟨_, hb, fun _ _ _ e => by cases e⟩ (World.putObj_heap_same (hr.blk r _ hb).1)
  have hd : Drop (upd σ r (some (.obj (.deferred none)))) (ers σ r) := fun b => by by_cases hbr : b = r <;> simp [ers, upd, hbr]
  have r2 := r1.drop hd
  have e2 := e1.trans (hd.ext _)
  refine ⟨by simp, .inl ⟨r, w.putObj r (.deferred none), rfl, htake, ?_⟩⟩
  simp only [List.nodup_cons] at hn
  refine leave_marks ds _ (ers σ r) r2 (ha.ext e2) (fun k hk => ?_) hn.2 (fun w' g1 g2 g3 => h w' g1 g2 (e2.trans g3))
  rw [ers_ne _ _ _ (by rintro rfl; exact hn.1 hk)]
  exact hm k (by simp [hk])
structure FnOk (p : Par) (f : FuncId) (N : Nat) (c : Code) (rs : List ResultVar) (m : Nat) : Prop where
 fn : ∃ fn, p.P.funcs[f]? = some fn ∧ fn.body = some c ∧ fn.ntmps = N ∧ fn.results.toList = rs ∧ (fn.name == "runtime.NumGoroutine") = false
 args : m ≤ N
 ok : codeOk p N c = true
 mixed : p.P.follows .mixedOrders = true
theorem acalls_of_sem {p : Par} {f : FuncId} {N : Nat} {c : Code} {rs : List ResultVar} {args : List AV} {σ : Sig} {K : AV → Sig → Prop} (hf : FnOk p f N c rs args.length)
  (h : SemC p none N c (RetPost p.P rs K) (envOf args) σ []) : ACalls p.P p.Γ f args σ K := by
 obtain ⟨fn, h1, h2, h3, h4, h5⟩ := hf.fn
 refine ⟨fun w vs => ?_, fun w vs r hv => ?_⟩
 ·have h5' : ¬ fn.name = "runtime.NumGoroutine" := by simpa using h5
  simp [callFunc, h1, h2, h5']
 ·refine callsIn_of_wp_marks (F := Fence.wide) h1 h2 trivial ?_
  have hlen := hv.length
  have hsem := h
  have hsz : (vs.toArray ++ Array.replicate (fn.ntmps - vs.toArray.size) undef).size = N := by
   have := hf.args
   simp [h3]
   omega
  have hw := hsem { tmps := vs.toArray ++ Array.replicate (fn.ntmps - vs.toArray.size) undef, defers := [] } w r ⟨fun t => ?_⟩ hsz rfl
  ·refine wpIn_mono hw fun e a' w' hp => ?_
   obtain ⟨ρ', σ', ds', ⟨hx, hm, hn, as, hres, hK⟩, g2, g3, g4, g5⟩ := hp.out
   have leave : LeavesInM Fence.wide 0 p.P fn a'.tmps (fun e w' => ∃ v x σ'', e = .returned v ∧ Rep w' σ'' x v ∧ Rel p.Γ w' σ'' ∧ Ext w σ w' σ'' ∧ K x σ'') a'.defers .returning w' := by
    rw [g5]
    refine leave_marks (Γ := p.Γ) (ρ := ρ') ds' w' σ' g2 g3 hm hn fun w'' k1 k2 k3 => ?_
    obtain ⟨v, q1, q2⟩ := aresults_ok (fn := fn) k1 (tmps := a'.tmps) (fun t => k2.slot t) (by rw [h4]; exact hres)
    exact ⟨v, q1, v, _, _, rfl, q2, k1, g4.trans k3, hK⟩
   rcases hx with rfl | rfl
   ·exact leave
   ·exact leave
  ·have := envOf_rep hv t
   rcases Nat.lt_or_ge t vs.length with ht | ht
   ·simpa [Array.getD_eq_getD_getElem?, Array.getElem?_append, ht] using this
   ·rw [List.getElem?_eq_none ht] at this
    have e : (vs.toArray ++ Array.replicate (fn.ntmps - vs.toArray.size) undef).getD t undef = undef := by
     rw [Array.getD_eq_getD_getElem?, Array.getElem?_append]
     simp [Nat.not_lt.2 ht, Array.getElem?_replicate]
     split <;> rfl
    rw [e]
    simpa using this
theorem pcalls_of_sem {p : Par} {f : FuncId} {N : Nat} {c : Code} {rs : List ResultVar} {args : List AV} {r : AV} (hf : FnOk p f N c rs args.length)
  (h : ∀ σ, SemC p none N c (RetPost p.P rs fun x σ' => Fz σ' σ x r ∧ Drop σ' σ) (envOf args) σ []) : PCalls p.P p.Γ f args r := by
 intro σ
 have := acalls_of_sem hf (h σ)
 refine ⟨this.1, fun w vs hr hv => ?_⟩
 have h2 := this.2 w vs hr hv
 refine ⟨h2.1, fun cs hroom => ?_⟩
 obtain ⟨e, w', fr, ⟨v, x, σ', g1, g2, g3, g4, hfz, hd⟩, hc⟩ := h2.2 cs hroom
 exact ⟨e, w', fr, ⟨v, r, σ, g1, hfz.rep g3 hd g2, g3.drop hd, g4.trans (hd.ext _), rfl, rfl⟩, hc⟩
end
end Go.AL
