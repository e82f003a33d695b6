import Derived.Test.YtjimmpldofoimaaGreatDoorAlRep
import Derived.Laws.CopyRow
set_option linter.unusedVariables false
set_option linter.unusedSimpArgs false
namespace Go.AL
structure TK where
 agg : Bool
 size : Nat
 zero : List AV
def tkOf (P : Program) (t : TypeId) : Option TK :=
 match P.info? t, P.underlying t with
 | some i, some d =>
  match i.zero with
  | some z => some ⟨(match d with | .struct _ | .array _ _ => true | _ => false), i.size, z.cells.toList.map .v⟩
  | none => none
 | _, _ => none
theorem tkOf_some {P : Program} {t : TypeId} {k : TK} (h : tkOf P t = some k) : ∃ i d z, P.info? t = some i ∧ P.underlying t = some d ∧ i.zero = some z ∧
  k = ⟨(match d with | .struct _ | .array _ _ => true | _ => false), i.size, z.cells.toList.map .v⟩ := by
 unfold tkOf at h
 split at h
 ·rename_i i d hi hd
  split at h
  ·rename_i z hz
   exact ⟨i, d, z, hi, hd, hz, (Option.some.inj h).symm⟩
  ·cases h
 ·cases h
theorem run_isAgg_tk {P : Program} {t : TypeId} {k : TK} (h : tkOf P t = some k) (w : World) : (isAgg t).run P w = .ok k.agg w := by
 obtain ⟨i, d, z, hi, hd, hz, rfl⟩ := tkOf_some h
 simp only [isAgg, Sem.run_bind, run_underlying hd, Result.andThen_ok]
 cases d <;> rfl
theorem run_sizeOf_tk {P : Program} {t : TypeId} {k : TK} (h : tkOf P t = some k) (w : World) : (sizeOf t).run P w = .ok k.size w := by
 obtain ⟨i, d, z, hi, hd, hz, rfl⟩ := tkOf_some h
 simp [sizeOf, typeInfo, hi]
theorem run_zero_tk {P : Program} {t : TypeId} {k : TK} (h : tkOf P t = some k) (w : World) : ∃ z, (zeroValue t).run P w = .ok z w ∧ k.zero = z.cells.toList.map .v := by
 obtain ⟨i, d, z, hi, hd, hz, rfl⟩ := tkOf_some h
 exact ⟨z, by simp [zeroValue, typeInfo, hi, hz], rfl⟩
def AV.cells? : AV → Option (List AV)
 | .agg cs => some cs
 | .any => none
 | .v (.agg cs) => some (cs.toList.map .v)
 | a => some [a]
theorem Rep.cells {w : World} {σ : Sig} {a : AV} {v : Value} (h : Rep w σ a v) {cs : List AV} (hc : a.cells? = some cs) : Reps w σ cs v.cells.toList := by
 cases h with
 | agg h => simp only [AV.cells?, Option.some.injEq] at hc; subst hc; simpa [Value.cells] using h
 | any => simp [AV.cells?] at hc
 | v =>
  cases v with
  | agg c => simp only [AV.cells?, Option.some.injEq] at hc; subst hc; exact .vs _
  | _ => simp only [AV.cells?, Option.some.injEq] at hc; subst hc; exact .cons (.v _) .nil
 | tup h => simp only [AV.cells?, Option.some.injEq] at hc; subst hc; exact .cons (.tup h) .nil
 | slnil => simp only [AV.cells?, Option.some.injEq] at hc; subst hc; exact .cons .slnil .nil
 | sl h hr hn => simp only [AV.cells?, Option.some.injEq] at hc; subst hc; exact .cons (.sl h hr hn) .nil
 | e0 a => simp only [AV.cells?, Option.some.injEq] at hc; subst hc; exact .cons (.e0 a) .nil
 | own hb hn ha h => simp only [AV.cells?, Option.some.injEq] at hc; subst hc; exact .cons (.own hb hn ha h) .nil
 | pp h hr => simp only [AV.cells?, Option.some.injEq] at hc; subst hc; exact .cons (.pp h hr) .nil
 | fn h h' => simp only [AV.cells?, Option.some.injEq] at hc; subst hc; exact .cons (.fn h h') .nil
def TK.part (k : TK) (cs : List AV) (off : Nat) : Option AV :=
 if k.agg then (if off + k.size ≤ cs.length then some (.agg ((cs.drop off).take k.size)) else none) else cs[off]?
theorem part_ok {P : Program} {w : World} {σ : Sig} {t : TypeId} {k : TK} (hk : tkOf P t = some k) {cs : List AV} {vs : List Value} (h : Reps w σ cs vs) {off : Nat} {r : AV} (hr : k.part cs off = some r) :
  ∃ v, (part t vs.toArray off).run P w = .ok v w ∧ Rep w σ r v := by
 unfold TK.part at hr
 simp only [part, Sem.run_bind, run_isAgg_tk hk, Result.andThen_ok]
 cases hagg : k.agg with
 | true =>
  simp only [hagg, if_true] at hr ⊢
  split at hr
  ·cases hr
   exact ⟨.agg ((vs.drop off).take k.size).toArray, by simp [run_sizeOf_tk hk], Rep.agg ((h.drop off).take k.size)⟩
  ·cases hr
 | false =>
  simp only [hagg, Bool.false_eq_true, if_false] at hr ⊢
  obtain ⟨v, hv, hrep⟩ := h.get off r hr
  refine ⟨v, ?_, hrep⟩
  simp [hv]
theorem loadVar_ok {P : Program} {w : World} {σ : Sig} {t : TypeId} {k : TK} (hk : tkOf P t = some k) {cs : List AV} {vs : List Value} (h : Reps w σ cs vs) {a : Addr} {off : Nat}
  (hrun : ∀ i v, vs[i]? = some v → w.cell? (a.add i) = some v) {r : AV} (hr : k.part cs off = some r) :
  ∃ v, (loadVar t (a.add off)).run P w = .ok v w ∧ Rep w σ r v := by
 unfold TK.part at hr
 simp only [loadVar, Sem.run_bind, run_isAgg_tk hk, Result.andThen_ok]
 cases hagg : k.agg with
 | true =>
  simp only [hagg, if_true] at hr ⊢
  split at hr
  ·rename_i hle
   cases hr
   have hl : ((vs.drop off).take k.size).length = k.size := by
    have := h.length
    simp; omega
   have hload := run_loadCells_list (P := P) w (a.add off) ((vs.drop off).take k.size) (fun j v hj => by
    rw [add_add]
    rw [List.getElem?_take] at hj
    split at hj
    ·rw [List.getElem?_drop] at hj; exact hrun _ _ hj
    ·cases hj)
   rw [hl] at hload
   exact ⟨.agg ((vs.drop off).take k.size).toArray, by simp [run_sizeOf_tk hk, hload], Rep.agg ((h.drop off).take k.size)⟩
  ·cases hr
 | false =>
  simp only [hagg, Bool.false_eq_true, if_false] at hr ⊢
  obtain ⟨v, hv, hrep⟩ := h.get off r hr
  refine ⟨v, ?_, hrep⟩
  simp [hrun off v hv]
def ofV : Value → AV
 | .agg cs => .agg (cs.toList.map .v)
 | .func f a b => .fn f (a.toList.map .v) (b.toList.map .v)
 | x => .v x
theorem ofV_rep (w : World) (σ : Sig) (x : Value) : Rep w σ (ofV x) x := by
 cases x <;> first
  | exact .v _
  | exact Rep.agg (Reps.vs _)
  | exact Rep.fn (Reps.vs _) (Reps.vs _)
def aev (Γ : Glob) (ρ : Env) : Operand → AV
 | .tmp t => ρ t
 | .const v => ofV v
 | .global g => match Γ g with | some cs => .pp cs 0 | none => .v (.pointer (some ⟨g, 0, none⟩))
 | .func f => .fn (.func f) [] []
structure Act.Is (w : World) (σ : Sig) (ρ : Env) (a : Act) : Prop where
 slot : ∀ t, Rep w σ (ρ t) (a.tmps.getD t undef)
theorem Act.Is.eval {Γ : Glob} {w : World} {σ : Sig} {ρ : Env} {a : Act} (h : Act.Is w σ ρ a) (r : Rel Γ w σ) (x : Operand) : Rep w σ (aev Γ ρ x) (a.eval x) := by
 cases x with
 | tmp t => exact h.slot t
 | const v => exact ofV_rep w σ v
 | global g =>
  simp only [aev, Act.eval]
  cases hg : Γ g with
  | none => exact .v _
  | some cs =>
   obtain ⟨vs, h1, h2⟩ := r.glob g cs hg
   simpa [Addr.add] using Rep.pp (off := 0) h1 h2.run
 | func f => exact Rep.fn .nil .nil
theorem Act.Is.ext {w w' : World} {σ σ' : Sig} {ρ : Env} {a : Act} (h : Act.Is w σ ρ a) (e : Ext w σ w' σ') : Act.Is w' σ' ρ a := ⟨fun t => (h.slot t).ext e⟩
theorem Act.Is.put {w : World} {σ : Sig} {ρ : Env} {a : Act} (h : Act.Is w σ ρ a) {d : Nat} {x : AV} {v : Value} (hx : Rep w σ x v) (hd : d < a.tmps.size) : Act.Is w σ (upd ρ d x) (a.put (some d) v) := by
 refine ⟨fun t => ?_⟩
 simp only [Act.put, upd]
 split
 ·rename_i e
  subst e
  simpa [Array.getD_eq_getD_getElem?, Array.getElem?_setIfInBounds, hd] using hx
 ·rename_i e
  have := h.slot t
  simpa [Array.getD_eq_getD_getElem?, Array.getElem?_setIfInBounds, Ne.symm e] using this
def aput (ρ : Env) : Option Tmp → AV → Env
 | some d, x => upd ρ d x
 | none, _ => ρ
end Go.AL
