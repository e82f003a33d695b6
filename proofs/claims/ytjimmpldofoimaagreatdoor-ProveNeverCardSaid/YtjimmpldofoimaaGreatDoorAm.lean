import Derived.Test.YtjimmpldofoimaaGreatDoorAlRules
import Derived.RangeFuncIn
import Derived.RangeFuncRecord
set_option linter.unusedVariables false
set_option linter.unusedSimpArgs false
namespace Go.AL
section
variable {P : Program} {Γ : Glob}
theorem copB_all {t0 t1 e : TypeId} {k : TK} {σ : Sig} {b m c : Nat} {cs xs : List AV} {x : AV} (he : elemOf P t0 = some (none, e)) (hk : tkOf P e = some k) (hb : σ b = some (.row cs k.size c)) (hcs : cs.length = m * k.size) (hx : Src σ k.size x xs m) (hone : xs.all AV.one = true)
  {K : AV → Sig → Prop} (hK : K (.v (.int .i64 m)) (upd σ b (some (.row xs k.size c)))) : copB P Γ σ t0 t1 (.own b k.size 0 m) x K := by
 intro ty w vs r hv
 cases hv with | cons h_s hv => cases hv with | cons h_x hv => cases hv with | nil =>
 rename_i vs_ vx_
 obtain ⟨hl, us, hus, hrep, hul⟩ := src_ok (P := P) r hx h_x
 obtain ⟨hbl, vb, rest0, el0, g3, g4, g5⟩ := r.blk b _ hb
 have glen := g4.length
 have hxl := hrep.length
 cases h_s with
 | own hbw hcap ha hrow =>
  rename_i a cap
  obtain ⟨_, hcc⟩ := hrow cs k.size c hb
  have hsrc : (Builtin.firstCells k.size m vx_).run P w = .ok us.toArray w := hus w.drawn
  by_cases hc0 : cap = 0
  ·have hm0 : m = 0 := by omega
   subst hm0
   have hus0 : us = [] := List.eq_nil_of_length_eq_zero (by omega)
   subst hus0
   have hxs : xs = [] := List.eq_nil_of_length_eq_zero (by simpa using hxl)
   subst hxs
   have hcs0 : cs = [] := List.eq_nil_of_length_eq_zero (by simpa using hcs)
   subst hcs0
   rw [upd_self hb] at hK
   refine ⟨.int .i64 0, w, _, σ, ?_, .v _, r, Ext.refl _ _, hK⟩
   cases a <;> simp [Builtin.copy_, run_underlying (elemOf_slice he), run_sizeOf_tk hk, hl, hsrc, goInt, storeCells]
  ·obtain rfl := ha hc0
   have hones := hrep.ones hone
   have hfull : us.length ≤ (vb ++ rest0).length := by simp; omega
   have hst := run_storeCells_at P b 0 el0 us 0 (vb ++ rest0).toArray w g3 (by simpa using hfull) hones
   simp only [Nat.add_zero, Nat.zero_add] at hst
   have hst' : (storeCells (⟨b, 0 * k.size, none⟩ : Addr) us).run P w = .ok () (w.setRow b ((vb ++ rest0).take 0 ++ us ++ (vb ++ rest0).drop (0 + us.length)).toArray) := by
    simpa using hst
   have hWr : Wr w (w.setRow b ((vb ++ rest0).take 0 ++ us ++ (vb ++ rest0).drop (0 + us.length)).toArray) b :=
    ⟨size_setRow _ _ _, fun j hj => setRow_other w b j _ hj, rfl, rfl, rfl⟩
   have eW := Ext.write (σ := σ) (x := .row xs k.size c) hWr ⟨_, hb, fun cs' s' c' e => by cases e; exact ⟨_, rfl⟩⟩
   have rW := r.write (x := .row xs k.size c) hWr ⟨_, hb, fun cs' s' c' e => by cases e; exact ⟨_, rfl⟩⟩
    ⟨us, (vb ++ rest0).drop (0 + us.length), el0, by
     rw [setRow_heap w b _ _ _ _ g3, List.take_zero, List.nil_append], hrep.ext eW, by
     simp only [List.length_append, List.length_drop] at hfull g5 ⊢
     omega⟩
   refine ⟨.int .i64 m, _, _, _, ?_, .v _, rW, eW, hK⟩
   simp [Builtin.copy_, run_underlying (elemOf_slice he), run_sizeOf_tk hk, hl, hsrc, goInt, hst]
theorem ACalls.retK {f : FuncId} {args : List AV} {σ : Sig} {K : AV → Sig → Prop} (h : ACalls P Γ f args σ fun r σ' => ∃ r0 σ0, Fz σ' σ0 r r0 ∧ Drop σ' σ0 ∧ K r0 σ0) : ACalls P Γ f args σ K :=
 ⟨h.1, fun w vs r hv => ⟨(h.2 w vs r hv).1, fun cs hroom => by
  obtain ⟨e, w', fr, ⟨v, a, σ', h1, h2, h3, h4, r0, σ0, h5, h6, h7⟩, hc⟩ := (h.2 w vs r hv).2 cs hroom
  exact ⟨e, w', fr, ⟨v, r0, σ0, h1, h5.rep h3 h6 h2, h3.drop h6, h4.trans (h6.ext _), h7⟩, hc⟩⟩⟩
end
theorem wr_put (w : World) (l : Nat) (o : Obj) : Wr w (w.putObj l o) l := ⟨World.putObj_size, fun k hk => World.putObj_heap_other hk, rfl, rfl, rfl⟩
def roundQ (l : Nat) (lp : Loop) (K : AV → Sig → Prop) : Post := fun e ρ σ ds => ∃ cs, σ l = some (.loop { lp with state := .busy } cs) ∧
 match e with
 | .normal => K (.v (.bool true)) (upd σ l (some (.loop { lp with state := .ready, pending := none } cs)))
 | .ret => K (.v (.bool false)) (upd σ l (some (.loop { lp with state := .done, pending := some .ret } cs)))
 | .exit id => K (.v (.bool false)) (upd σ l (some (.loop { lp with state := .done, pending := some (.exit id) } cs)))
 | _ => False
def beganQ (p : Par) (l N : Nat) (lp : Loop) (K : AV → Sig → Prop) : Post := fun e ρ σ ds => e = .normal ∧ ∃ cs, σ l = some (.loop lp cs) ∧ SemC p (some l) N lp.body (roundQ l lp K) ρ (upd σ l (some (.loop { lp with state := .busy } cs))) ds
theorem loop_put {Γ : Glob} {w : World} {σ : Sig} {l : Nat} {lp lp' : Loop} {cs : List AV} (r : Rel Γ w σ) (h : σ l = some (.loop lp cs)) (ht : lp'.tmps = lp.tmps) :
  Rel Γ (w.putObj l (.loop lp')) (upd σ l (some (.loop lp' cs))) ∧ Ext w σ (w.putObj l (.loop lp')) (upd σ l (some (.loop lp' cs))) := by
 obtain ⟨hl, hh, hr⟩ := r.blk l _ h
 have e := Ext.write (σ := σ) (x := .loop lp' cs) (wr_put w l (.loop lp')) ⟨_, h, fun _ _ _ e => by cases e⟩
 exact ⟨r.write (x := .loop lp' cs) (wr_put w l (.loop lp')) ⟨_, h, fun _ _ _ e => by cases e⟩ ⟨World.putObj_heap_same hl, by rw [ht]; exact hr.ext e⟩, e⟩
theorem rep_fn0 {w : World} {σ : Sig} {f : Fn} {u : Value} (h : Rep w σ (.fn f [] []) u) : u = .func f #[] #[] := by
 cases h with
 | fn h1 h2 =>
  cases h1
  cases h2
  rfl
theorem reps_one {w : World} {σ : Sig} {x : AV} {vs : List Value} (h : Reps w σ [x] vs) : ∃ v, vs = [v] ∧ Rep w σ x v := by
 cases h with
 | cons h1 h2 =>
  cases h2
  exact ⟨_, rfl, h1⟩
theorem yield_call {p : Par} {l N : Nat} {lp : Loop} {cs : List AV} {t : Tmp} {x : AV} {σ : Sig} {K : AV → Sig → Prop} (hσ : σ l = some (.loop lp cs)) (hp : lp.params = #[t]) (hst : lp.state = .ready) (hN : lp.tmps.size = N) (ht : t < N)
  (h : SemC p (some l) N lp.assign (beganQ p l N lp K) (upd (envOf cs) t x) σ []) : FCalls p.P p.Γ (.fn (.yield l) [] []) [x] σ K := by
 intro w u vs rel hu hv
 obtain rfl := rep_fn0 hu
 obtain ⟨vx, rfl, hx⟩ := reps_one hv
 obtain ⟨hl, hheap, hreps⟩ := rel.blk l _ hσ
 have hy := run_yield (P := p.P) (w := w) (args := #[vx]) hheap (by rw [hp]; rfl)
 have he : (do let d ← Deferred.ofValue (.func (.yield l) #[] #[]) [vx].toArray; invoke d.target d.args : Sem Next).run p.P w = .ok (.round l lp.fn (lp.tmps.setIfInBounds t vx) lp.assign lp.body) w := by
  simp only [Deferred.ofValue, Sem.run_bind, Sem.run_pure, Result.andThen_ok, invoke]
  have e1 : (#[] : Array Value) ++ [vx].toArray = #[vx] := by simp
  rw [e1, hy, hp]
  simp
 unfold VCall
 rw [he]
 have hin : (FF (some l)) = Fence.wide.inRound l := rfl
 refine roundIn_of_wpIn (F := Fence.wide) trivial ?_
 have ha : Act.Is w σ (upd (envOf cs) t x) { tmps := lp.tmps.setIfInBounds t vx, defers := [] } := by
  have h0 : Act.Is w σ (envOf cs) { tmps := lp.tmps, defers := [] } := ⟨fun i => by
   have := envOf_rep hreps i
   simpa [Array.getD_eq_getD_getElem?] using this⟩
  have := h0.put (d := t) hx (by rw [hN]; exact ht)
  simpa [Act.put] using this
 have h1 := h { tmps := lp.tmps.setIfInBounds t vx, defers := [] } w rel ha (by simp [hN]) rfl
 refine wpIn_mono h1 fun e a' w' hq => ?_
 obtain ⟨ρ1, σ1, ds1, ⟨rfl, cs1, hc1, hbody⟩, r1, a1, e1, d1⟩ := hq.out
 obtain ⟨_, hh1, _⟩ := r1.blk l _ hc1
 obtain ⟨r2, e2⟩ := loop_put (lp' := { lp with state := .busy }) r1 hc1 rfl
 refine ⟨_, run_beginRound hh1 hst, ?_⟩
 refine wpIn_mono (hbody a' _ r2 (a1.ext e2) hq.size d1) fun e a'' w'' hq2 => ?_
 obtain ⟨ρ3, σ3, ds3, ⟨cs3, hc3, hk⟩, r3, a3, e3, d3⟩ := hq2.out
 obtain ⟨_, hh3, _⟩ := r3.blk l _ hc3
 have eall := e1.trans (e2.trans e3)
 cases e with
 | normal =>
  obtain ⟨r4, e4⟩ := loop_put (lp' := { lp with state := .ready, pending := none }) r3 hc3 rfl
  exact ⟨_, _, run_endRound none hh3, _, _, _, rfl, .v _, r4, eall.trans e4, hk⟩
 | ret =>
  obtain ⟨r4, e4⟩ := loop_put (lp' := { lp with state := .done, pending := some .ret }) r3 hc3 rfl
  exact ⟨_, _, run_endRound (some .ret) hh3, _, _, _, rfl, .v _, r4, eall.trans e4, hk⟩
 | exit id =>
  obtain ⟨r4, e4⟩ := loop_put (lp' := { lp with state := .done, pending := some (.exit id) }) r3 hc3 rfl
  exact ⟨_, _, run_endRound (some (.exit id)) hh3, _, _, _, rfl, .v _, r4, eall.trans e4, hk⟩
 | goto t => exact hk.elim
 | panic c => exact hk.elim
 | outgrown => exact hk.elim
theorem Reps.of_get {w : World} {σ : Sig} : ∀ {cs : List AV} {vs : List Value}, cs.length = vs.length → (∀ (i : Nat) c v, cs[i]? = some c → vs[i]? = some v → Rep w σ c v) → Reps w σ cs vs
 | [], [], _, _ => .nil
 | c :: cs, v :: vs, h, hr => .cons (hr 0 c v rfl rfl) (Reps.of_get (by simpa using h) fun i c v h1 h2 => hr (i + 1) c v (by simpa using h1) (by simpa using h2))
 | [], _ :: _, h, _ => by simp at h
 | _ :: _, [], h, _ => by simp at h
theorem reps_env {w : World} {σ : Sig} {ρ : Env} {a : Act} {N : Nat} (h : Act.Is w σ ρ a) (hN : a.tmps.size = N) : Reps w σ ((List.range N).map ρ) a.tmps.toList := by
 refine Reps.of_get (by simp [hN]) fun i c v h1 h2 => ?_
 rw [List.getElem?_map] at h1
 have hi : i < N := by
  rcases Nat.lt_or_ge i N with h | h
  ·exact h
  ·rw [List.getElem?_eq_none (by simpa using h)] at h1; simp at h1
 rw [List.getElem?_range hi] at h1
 simp at h1
 subst h1
 have := h.slot i
 rw [Array.getD_eq_getD_getElem?] at this
 rw [Array.getElem?_toList] at h2
 rw [h2] at this
 simpa using this
theorem SemC.rangeFunc {p : Par} {N : Nat} {g : Operand} {ps : Array Tmp} {assign body : Code} {Q : Post} {ρ : Env} {σ : Sig} {ds : List Nat} {f : FuncId} {first captured : List AV} (hfv : aev p.Γ ρ g = .fn (.func f) first captured)
  (h : ∀ (r l : Nat) (lp : Loop), σ r = none → σ l = none → ¬ l = r → lp.params = ps → lp.assign = assign → lp.body = body → lp.state = .ready → lp.pending = none → lp.tmps.size = N →
   ACalls p.P p.Γ f (first ++ [.fn (.yield l) [] []] ++ captured) (upd (upd σ r (some (.obj (.deferred (some []))))) l (some (.loop lp ((List.range N).map ρ)))) fun _ σ' =>
    ∃ st pend cs, σ' l = some (.loop { lp with state := st, pending := pend } cs) ∧ st ≠ .busy ∧
     match pend with
     | none => Q .normal ρ (ers σ' l) (r :: ds)
     | some .ret => Q .ret ρ (ers σ' l) (r :: ds)
     | some (.exit id) => Q (.exit id) ρ (ers σ' l) (r :: ds)
     | _ => False) : SemC p none N (.rangeFunc g ps assign body) Q ρ σ ds := by
 intro a w rel ha hN hd
 refine wpIn_rangeFunc (F := Fence.wide) fun fn _ => ?_
 have r1 : Rel p.Γ (w.alloc (.deferred (some []))) (upd σ w.heap.size (some (.obj (.deferred (some []))))) := rel.alloc _ (.obj (.deferred (some []))) (World.alloc_heap_new w _)
 have e1 : Ext w σ (w.alloc (.deferred (some []))) (upd σ w.heap.size (some (.obj (.deferred (some []))))) := Ext.alloc _ _ rel.fresh
 have hsz : (w.alloc (.deferred (some []))).heap.size = w.heap.size + 1 := World.size_alloc _ _
 let lp : Loop := { state := .ready, pending := none, fn, tmps := a.tmps, params := ps, assign, body, defers := w.heap.size }
 have f1 := r1.fresh
 have e2 := Ext.alloc (w := w.alloc (.deferred (some []))) (.loop lp) (.loop lp ((List.range N).map ρ)) f1
 have r2 := r1.alloc (.loop lp) (.loop lp ((List.range N).map ρ)) ⟨World.alloc_heap_new _ _, reps_env ((ha.ext e1).ext e2) hN⟩
 rw [hsz] at f1 e2 r2
 have a2 := (ha.ext e1).ext e2
 have hev := a2.eval r2 g
 rw [hfv] at hev
 have hne : ¬ w.heap.size + 1 = w.heap.size := by omega
 have hσl : σ (w.heap.size + 1) = none := by rwa [upd_ne _ _ _ _ hne] at f1
 have hc := h w.heap.size (w.heap.size + 1) lp rel.fresh hσl hne rfl rfl rfl rfl rfl hN
 generalize hu : a.eval g = u at hev
 cases hev with
 | fn h1 h2 =>
  rename_i us cs
  have hcall := hc.2 _ (us ++ [Value.func (.yield (w.heap.size + 1)) #[] #[]] ++ cs) r2 ((h1.append (.cons (.fn .nil .nil) .nil)).append h2)
  refine ⟨w.heap.size + 1, [{ target := .collected w.heap.size, args := #[] }], (w.alloc (.deferred (some []))).alloc (.loop lp), { target := .fn (.func f) cs.toArray, args := us.toArray ++ #[Value.func (.yield (w.heap.size + 1)) #[] #[]] }, (w.alloc (.deferred (some []))).alloc (.loop lp), f, (us ++ [Value.func (.yield (w.heap.size + 1)) #[] #[]] ++ cs).toArray, (w.alloc (.deferred (some []))).alloc (.loop lp), run_enterLoop_outer _ _ _ _ _, ?_, fun _ _ => trivial, ?_, fun hd => by simp [Fence.wide] at hd, ?_⟩
  ·have em : (#[Operand.const (Value.func (.yield (w.heap.size + 1)) #[] #[])].map a.eval) = #[Value.func (.yield (w.heap.size + 1)) #[] #[]] := by simp [Act.eval]
   simp only [resolve, rangeCall, hu, Deferred.ofValue, Sem.run_pure, em]
  ·have := hc.1 ((w.alloc (.deferred (some []))).alloc (.loop lp)) (us ++ [Value.func (.yield (w.heap.size + 1)) #[] #[]] ++ cs).toArray
   simp only [invoke]
   have e : us.toArray ++ #[Value.func (.yield (w.heap.size + 1)) #[] #[]] ++ cs.toArray = (us ++ [Value.func (.yield (w.heap.size + 1)) #[] #[]] ++ cs).toArray := by simp
   rw [e]
   exact this
  ·refine CallsIn.mono hcall fun e w3 he => ?_
   obtain ⟨v, x, σ3, rfl, g1, g2, g3, st, pend, cs3, g4, g5, g6⟩ := he
   obtain ⟨_, hh3, _⟩ := g2.blk _ _ g4
   obtain ⟨r4, e4⟩ := loop_put (lp' := { lp with state := .exhausted, pending := pend }) g2 g4 rfl
   have hd4 : Drop (upd σ3 (w.heap.size + 1) (some (.loop { lp with state := .exhausted, pending := pend } cs3))) (ers σ3 (w.heap.size + 1)) := fun i => by
    by_cases hi : i = w.heap.size + 1
    ·subst hi; exact .inl (ers_same _ _)
    ·exact .inr (by rw [ers_ne _ _ _ hi, upd_ne _ _ _ _ hi])
   have eall := e1.trans (e2.trans (g3.trans (e4.trans (hd4.ext _))))
   have hdm : [{ target := Target.collected w.heap.size, args := #[] }] ++ a.defers = marks (w.heap.size :: ds) := by rw [hd]; rfl
   refine ⟨pend, _, run_endLoop hh3 g5, ?_⟩
   cases pend with
   | none => exact ⟨⟨ρ, _, _, g6, r4.drop hd4, ⟨fun t => (ha.ext eall).slot t⟩, eall, hdm⟩, hN⟩
   | some c =>
    cases c with
    | ret => exact wpIn_ret ⟨⟨ρ, _, _, g6, r4.drop hd4, ⟨fun t => (ha.ext eall).slot t⟩, eall, hdm⟩, hN⟩
    | exit id => exact wpIn_exit ⟨⟨ρ, _, _, g6, r4.drop hd4, ⟨fun t => (ha.ext eall).slot t⟩, eall, hdm⟩, hN⟩
    | _ => exact g6.elim
def seenM (ns : List Int) : List (AV × AV) := ns.map fun n => (AV.v (.int .i64 n), AV.v (.bool true))
theorem reps_vs {w : World} {σ : Sig} {α : Type} {f : α → Value} : ∀ {l : List α} {vs : List Value}, Reps w σ (l.map fun x => AV.v (f x)) vs → vs = l.map f
 | [], _, .nil => rfl
 | x :: l, _, .cons (.v _) h' => by rw [reps_vs (l := l) h']; rfl
theorem findNow_ints (n : Int) : ∀ (ents : List MapEntry) (i : Nat) (ns : List Int), ents.map (·.key) = ns.map (Value.int .i64) → ents.map (·.val) = ns.map (fun _ => Value.bool true) →
  (n ∉ ns → Instr.findNow (.int .i64) (.int .i64 n) ents i = some none) ∧ (n ∈ ns → ∃ j, Instr.findNow (.int .i64) (.int .i64 n) ents i = some (some (j, .bool true)))
 | [], i, [], _, _ => ⟨fun _ => rfl, fun h => by simp at h⟩
 | [], i, _ :: _, h, _ => by simp at h
 | _ :: _, i, [], h, _ => by simp at h
 | e :: ents, i, m :: ns, h, h2 => by
  simp only [List.map_cons, List.cons.injEq] at h h2
  have ih := findNow_ints n ents (i + 1) ns h.2 h2.2
  by_cases hm : n = m
  ·subst hm
   refine ⟨fun hn => by simp at hn, fun _ => ⟨i, ?_⟩⟩
   simp [Instr.findNow, h.1, h2.1, Instr.sameNow]
  ·have hnm : (n == m) = false := by simp [hm]
   refine ⟨fun hn => ?_, fun hn => ?_⟩
   ·simp only [List.mem_cons, not_or] at hn
    simp [Instr.findNow, h.1, Instr.sameNow, hnm, ih.1 hn.2]
   ·have : n ∈ ns := by simpa [hm] using hn
    obtain ⟨j, hj⟩ := ih.2 this
    exact ⟨j, by simp [Instr.findNow, h.1, Instr.sameNow, hnm, hj]⟩
section
variable {P : Program} {Γ : Glob} {σ : Sig} {t k e : TypeId} {b : Nat} {ns : List Int} {n : Int} {K : AV → Sig → Prop}
theorem run_checkKey_int {P : Program} {w : World} {k : TypeId} (hk : P.underlying k = some (.int .i64)) (em : Bool) (d : Nat) (n : Int) : (Instr.checkKey em (d + 1) k (.int .i64 n)).run P w = .ok () w := by
 simp [Instr.checkKey, run_underlying hk]
theorem lookB_seen (ht : P.underlying t = some (.map k e)) (hk : P.underlying k = some (.int .i64)) (he : ∀ w, (zeroValue e).run P w = .ok (.bool false) w) (hb : σ b = some (.map (seenM ns)))
  (hK : K (.v (.bool (decide (n ∈ ns)))) σ) : lookB P Γ σ t false (.v (.map (some b))) (.v (.int .i64 n)) K := by
 intro w vs rel hv
 cases hv with | cons h1 hv => cases hv with | cons h2 hv => cases hv with | nil =>
 cases h1; cases h2
 obtain ⟨_, ents, clock, hh, hks, hvs⟩ := rel.blk b _ hb
 have e1 : ents.toList.map (·.key) = ns.map (Value.int .i64) := reps_vs (by simpa [seenM, Function.comp_def] using hks)
 have e2 : ents.toList.map (·.val) = ns.map (fun _ => Value.bool true) := reps_vs (by simpa [seenM, Function.comp_def] using hvs)
 obtain ⟨f1, f2⟩ := findNow_ints n ents.toList 0 ns e1 e2
 have hg : (getObj b).run P w = .ok (.map ents clock) w := by simp [getObj, Sem.run, hh]
 by_cases hn : n ∈ ns
 ·obtain ⟨j, hj⟩ := f2 hn
  refine ⟨.bool true, w, _, σ, ?_, by rw [decide_eq_true hn]; exact .v _, rel, Ext.refl _ _, hK⟩
  simp [Instr.lookup, run_underlying ht, hg, run_checkKey_int hk, Instr.findKey, run_underlying hk, hj]
 ·refine ⟨.bool false, w, _, σ, ?_, by rw [decide_eq_false hn]; exact .v _, rel, Ext.refl _ _, hK⟩
  simp [Instr.lookup, run_underlying ht, hg, run_checkKey_int hk, Instr.findKey, run_underlying hk, f1 hn, he]
theorem mupB_seen (ht : P.underlying t = some (.map k e)) (hk : P.underlying k = some (.int .i64)) (hb : σ b = some (.map (seenM ns))) (hn : n ∉ ns)
  (hK : K (.v undef) (upd σ b (some (.map (seenM (ns ++ [n])))))) : mupB P Γ σ t (.v (.map (some b))) (.v (.int .i64 n)) (.v (.bool true)) K := by
 intro w vs rel hv
 cases hv with | cons h1 hv => cases hv with | cons h2 hv => cases hv with | cons h3 hv => cases hv with | nil =>
 cases h1; cases h2; cases h3
 obtain ⟨hbl, ents, clock, hh, hks, hvs⟩ := rel.blk b _ hb
 have e1 : ents.toList.map (·.key) = ns.map (Value.int .i64) := reps_vs (by simpa [seenM, Function.comp_def] using hks)
 have e2 : ents.toList.map (·.val) = ns.map (fun _ => Value.bool true) := reps_vs (by simpa [seenM, Function.comp_def] using hvs)
 obtain ⟨f1, _⟩ := findNow_ints n ents.toList 0 ns e1 e2
 have hg : (getObj b).run P w = .ok (.map ents clock) w := by simp [getObj, Sem.run, hh]
 let o : Obj := .map (ents.push { key := .int .i64 n, val := .bool true, born := clock }) (clock + 1)
 have hs : (setObj b o).run P w = .ok () (w.putObj b o) := by simp [setObj, Sem.run, hh, World.putObj, o]
 have hW : Wr w (w.putObj b o) b := ⟨World.putObj_size, fun k hk => World.putObj_heap_other hk, rfl, rfl, rfl⟩
 have eW := Ext.write (σ := σ) (x := .map (seenM (ns ++ [n]))) hW ⟨_, hb, fun _ _ _ e => by cases e⟩
 have rW := rel.write (x := .map (seenM (ns ++ [n]))) hW ⟨_, hb, fun _ _ _ e => by cases e⟩
  ⟨_, _, World.putObj_heap_same hbl, by
   have := (hks.ext eW).append (.cons (.v (.int .i64 n)) .nil)
   simpa [seenM, o] using this, by
   have := (hvs.ext eW).append (.cons (.v (.bool true)) .nil)
   simpa [seenM, o] using this⟩
 refine ⟨undef, _, _, _, ?_, .v _, rW, eW, hK⟩
 simp [Instr.mapUpdate, run_underlying ht, hg, run_checkKey_int hk, Instr.findKey, run_underlying hk, f1 hn]
 simp [hs, o]
end
end Go.AL
