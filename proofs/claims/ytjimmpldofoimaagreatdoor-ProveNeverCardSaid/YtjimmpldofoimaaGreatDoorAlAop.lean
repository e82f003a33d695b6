import Derived.Test.YtjimmpldofoimaaGreatDoorAlApp
set_option linter.unusedVariables false
set_option linter.unusedSimpArgs false
namespace Go.AL
def ACalls (P : Program) (Γ : Glob) (f : FuncId) (args : List AV) (σ : Sig) (K : AV → Sig → Prop) : Prop :=
 (∀ w (vs : Array Value), (callFunc f vs).run P w = .ok (.enter f vs) w) ∧ ∀ w (vs : List Value), Rel Γ w σ → Reps w σ args vs →
  CallsIn Fence.wide 0 P f vs.toArray w fun e w' => ∃ v r σ', e = .returned v ∧ Rep w' σ' r v ∧ Rel Γ w' σ' ∧ Ext w σ w' σ' ∧ K r σ'
theorem ACalls.mono {P : Program} {Γ : Glob} {f : FuncId} {args : List AV} {σ : Sig} {K K' : AV → Sig → Prop} (h : ACalls P Γ f args σ K) (hk : ∀ r σ', K r σ' → K' r σ') : ACalls P Γ f args σ K' :=
 ⟨h.1, fun w vs r hv => ⟨(h.2 w vs r hv).1, fun cs hroom => by
  obtain ⟨e, w', fr, ⟨v, a, σ', h1, h2, h3, h4, h5⟩, hc⟩ := (h.2 w vs r hv).2 cs hroom
  exact ⟨e, w', fr, ⟨v, a, σ', h1, h2, h3, h4, hk _ _ h5⟩, hc⟩⟩⟩
def PCalls (P : Program) (Γ : Glob) (f : FuncId) (args : List AV) (r : AV) : Prop := ∀ σ, ACalls P Γ f args σ fun r' σ' => r' = r ∧ σ' = σ
theorem PCalls.use {P : Program} {Γ : Glob} {f : FuncId} {args : List AV} {r : AV} (h : PCalls P Γ f args r) {σ : Sig} {K : AV → Sig → Prop} (hk : K r σ) : ACalls P Γ f args σ K :=
 (h σ).mono fun r' σ' ⟨h1, h2⟩ => by subst h1; subst h2; exact hk
def VCall (P : Program) (u : Value) (args : Array Value) (w : World) (R : Ending → World → Prop) : Prop :=
 match (do let d ← Deferred.ofValue u args; invoke d.target d.args : Sem Next).run P w with
 | .ok (.enter f args) w' => CallsIn Fence.wide 0 P f args w' R
 | .ok (.round l f tmps assign body) w' => RoundIn Fence.wide 0 P l f tmps assign body w' R
 | _ => False
def CallPost (Γ : Glob) (w : World) (σ : Sig) (K : AV → Sig → Prop) : Ending → World → Prop := fun e w' => ∃ v r σ', e = .returned v ∧ Rep w' σ' r v ∧ Rel Γ w' σ' ∧ Ext w σ w' σ' ∧ K r σ'
def FCalls (P : Program) (Γ : Glob) (fv : AV) (args : List AV) (σ : Sig) (K : AV → Sig → Prop) : Prop :=
 ∀ w u vs, Rel Γ w σ → Rep w σ fv u → Reps w σ args vs → VCall P u vs.toArray w (CallPost Γ w σ K)
def callOp (P : Program) (Γ : Glob) (fv : AV) (args : List AV) (σ : Sig) (K : AV → Sig → Prop) : Prop :=
 match fv with
 | .fn (.func g) first captured => ACalls P Γ g (first ++ args ++ captured) σ K
 | fv => FCalls P Γ fv args σ K
theorem callOp_ok {P : Program} {Γ : Glob} {fv : AV} {args : List AV} {σ : Sig} {K : AV → Sig → Prop} (h : callOp P Γ fv args σ K) : FCalls P Γ fv args σ K := by
 unfold callOp at h
 split at h
 ·rename_i g first captured
  intro w u vs r hu hv
  cases hu with
  | fn h1 h2 =>
   rename_i us cs
   have := h.2 w (us ++ vs ++ cs) r ((h1.append hv).append h2)
   have he := h.1 w (us.toArray ++ vs.toArray ++ cs.toArray)
   have e1 : (us ++ vs ++ cs).toArray = us.toArray ++ vs.toArray ++ cs.toArray := by simp
   rw [e1] at this
   simp only [VCall, Deferred.ofValue, Sem.run_bind, Sem.run_pure, Result.andThen_ok, invoke, he]
   exact this
 ·exact h
theorem FCalls.mono {P : Program} {Γ : Glob} {fv : AV} {args : List AV} {σ : Sig} {K K' : AV → Sig → Prop} (h : FCalls P Γ fv args σ K) (hk : ∀ r σ', K r σ' → K' r σ') : FCalls P Γ fv args σ K' := by
 intro w u vs r hu hv
 have := h w u vs r hu hv
 unfold VCall at this ⊢
 split at this
 ·exact ⟨this.1, fun cs hroom => by
   obtain ⟨e, w', fr, ⟨v, a, σ', h1, h2, h3, h4, h5⟩, hc⟩ := this.2 cs hroom
   exact ⟨e, w', fr, ⟨v, a, σ', h1, h2, h3, h4, hk _ _ h5⟩, hc⟩⟩
 ·exact RoundIn.mono this fun e w' ⟨v, a, σ', h1, h2, h3, h4, h5⟩ => ⟨v, a, σ', h1, h2, h3, h4, hk _ _ h5⟩
 ·exact this.elim
def allocB (t : TypeId) (k : TK) : Blk := if t = 286 then .var k.zero t else .row k.zero k.zero.length 1
def rowOf : Option Blk → Option (List AV × Nat × Nat × Bool)
 | some (.row cs s c) => some (cs, s, c, false)
 | some (.var cs el) => some (cs, 0, el, true)
 | _ => none
def mkB (cs : List AV) : List AV × Nat × Nat × Bool → Blk
 | (_, s, c, false) => .row cs s c
 | (_, _, el, true) => .var cs el
def aop (P : Program) (Lf : TypeId → List LeafK) (Γ : Glob) (pure : Bool) (ev : Operand → AV) (σ : Sig) (op : Op) (K : AV → Sig → Prop) : Prop :=
 match op with
 | .load t a =>
  match ev a with
  | .pp cs off => ∃ k r, tkOf P t = some k ∧ k.part cs off = some r ∧ K r σ
  | .v (.pointer (some ⟨b, off, none⟩)) => ∃ k q r, tkOf P t = some k ∧ rowOf (σ b) = some q ∧ k.part q.1 off = some r ∧ K r σ
  | _ => False
 | .store t a x =>
  match ev a with
  | .v (.pointer (some ⟨b, off, none⟩)) => ∃ k xs q, tkOf P t = some k ∧ (ev x).cells? = some xs ∧ xs.length = k.size ∧ xs.all AV.one = true ∧ rowOf (σ b) = some q ∧ off + k.size ≤ q.1.length ∧ K (.v undef) (upd σ b (some (mkB (putL q.1 off xs) q)))
  | _ => False
 | .alloc t => ∃ k, tkOf P t = some k ∧ ∀ b, σ b = none → K (.v (.pointer (some ⟨b, 0, none⟩))) (upd σ b (some (allocB t k)))
 | .box t x =>
  if pure then dop P Lf pure ev op (fun r => K r σ)
  else ∃ xs, (ev x).cells? = some xs ∧ ∀ b, σ b = none → K (.v (.pointer (some ⟨b, 0, none⟩))) (upd σ b (some (.row xs xs.length 1)))
 | .buildSlice t n parts =>
  if pure then dop P Lf pure ev op (fun r => K r σ)
  else ∃ e k cs, elemOf P t = some (none, e) ∧ tkOf P e = some k ∧ k.size ≠ 0 ∧ n ≤ 65536 ∧ k.size ≤ 256 ∧ k.zero.length = k.size ∧
   fillA (fun i => some (i * k.size, k.size)) (List.replicate n k.zero).flatten (parts.toList.map fun p => (p.1, ev p.2)) = some cs ∧ ∀ b, σ b = none → K (.own b k.size 0 n) (upd σ b (some (.row cs k.size n)))
 | .makeSlice t l c =>
  match ev l, ev c with
  | .v (.int .i64 n), .v (.int .i64 m) => ∃ e k, elemOf P t = some (none, e) ∧ tkOf P e = some k ∧ k.size ≠ 0 ∧ k.zero.length = k.size ∧ 0 ≤ n ∧ n ≤ m ∧ (P.bytesOf e : Int) * m ≤ 140737488355328 ∧ m ≤ 9223372036854775807 ∧
    ∀ b, σ b = none → K (.own b k.size 0 n.toNat) (upd σ b (some (.row (List.replicate m.toNat k.zero).flatten k.size m.toNat)))
  | _, _ => False
 | .makeMap _ none => ∀ b, σ b = none → K (.v (.map (some b))) (upd σ b (some (.map [])))
 | .range t x =>
  match ev x with
  | .v (.string s) => P.underlying t = some .string ∧ ∀ b, σ b = none → K (.v (.pointer (some ⟨b, 0, none⟩))) (upd σ b (some (.obj (.stringIter s 0))))
  | _ => False
 | .next it true =>
  match ev it with
  | .v (.pointer (some ⟨b, 0, none⟩)) => ∃ s pos, σ b = some (.obj (.stringIter s pos)) ∧
    (¬ pos < s.size → K (.tup [.v (.bool false)]) σ) ∧
    (pos < s.size → K (.tup [.v (.bool true), .v (.int .i64 pos), .v (.int .i32 (Utf8.decode s pos).1)]) (upd σ b (some (.obj (.stringIter s (pos + (Utf8.decode s pos).2))))))
  | _ => False
 | .lookup t m k ok => SemOk P Γ σ [ev m, ev k] (fun vs => Instr.lookup t (vs.getD 0 undef) (vs.getD 1 undef) ok) K
 | .mapUpdate t m k x => SemOk P Γ σ [ev m, ev k, ev x] (fun vs => do Instr.mapUpdate t (vs.getD 0 undef) (vs.getD 1 undef) (vs.getD 2 undef); Pure.pure undef) K
 | .call c =>
  match c.callee with
  | .builtin .append =>
   match c.args.toList, c.argTypes.toList with
   | [s, x], [t0, t1] => ∀ ty, SemOk P Γ σ [ev s, ev x] (fun vs => Builtin.append_ #[t0, t1] ty vs.toArray) K
   | _, _ => False
  | .builtin .copy =>
   match c.args.toList, c.argTypes.toList with
   | [s, x], [t0, t1] => ∀ ty, SemOk P Γ σ [ev s, ev x] (fun vs => Builtin.copy_ #[t0, t1] ty vs.toArray) K
   | _, _ => False
  | .builtin .unsafeString =>
   match c.args.toList with
   | [s, x] => ∀ ty, SemOk P Γ σ [ev s, ev x] (fun vs => Builtin.unsafeString_ c.argTypes ty vs.toArray) K
   | _ => False
  | .value f => callOp P Γ (ev f) (c.args.toList.map ev) σ K
  | _ => dop P Lf pure ev op (fun r => K r σ)
 | _ => dop P Lf pure ev op (fun r => K r σ)
def AOk (P : Program) (Γ : Glob) (w : World) (σ : Sig) (s : Sem Next) (K : AV → Sig → Prop) : Prop :=
 ∃ v w' r σ', s.run P w = .ok (.value v) w' ∧ Rep w' σ' r v ∧ Rel Γ w' σ' ∧ Ext w σ w' σ' ∧ K r σ'
theorem NOk.aok {P : Program} {Γ : Glob} {w : World} {σ : Sig} {s : Sem Next} {K : AV → Sig → Prop} (r : Rel Γ w σ) (h : NOk P w σ s fun x => K x σ) : AOk P Γ w σ s K := by
 obtain ⟨v, w', x, h1, h2, h3, h4⟩ := h
 obtain ⟨r', e⟩ := h2 Γ σ r
 exact ⟨v, w', x, σ, h1, h3, r', e, h4⟩
end Go.AL
