import Derived.Test.YtjimmpldofoimaaGreatDoorAlAop
import Derived.IntWalk
set_option linter.unusedVariables false
set_option linter.unusedSimpArgs false
namespace Go.AL
def FF : Option Nat → Fence
 | none => Fence.wide
 | some l => Fence.wide.inRound l
@[simp] theorem FF_round (ro : Option Nat) : (FF ro).round = ro := by cases ro <;> rfl
@[simp] theorem FF_fn (ro : Option Nat) (f : FuncId) : (FF ro).fn f := by cases ro <;> trivial
@[simp] theorem FF_depth (ro : Option Nat) : (FF ro).depth = none := by cases ro <;> rfl
theorem FF_room (ro : Option Nat) (n : Nat) : (FF ro).room n := fun d h => by simp at h
theorem FF_fenced (P : Program) (ro : Option Nat) : Machine.fenced P (FF ro) = Machine.fenced P Fence.wide := by cases ro <;> rfl
theorem CallsIn.ff {P : Program} {f : FuncId} {args : Array Value} {w : World} {R : Ending → World → Prop} (ro : Option Nat) (h : CallsIn Fence.wide 0 P f args w R) : CallsIn (FF ro) 0 P f args w R := by
 refine ⟨FF_fn _ _, fun cs _ => ?_⟩
 rw [FF_fenced]
 exact h.2 cs (room_wide _)
theorem RoundIn.ff {P : Program} {l : Nat} {f : FuncId} {tmps : Array Value} {assign body : Code} {w : World} {R : Ending → World → Prop} (ro : Option Nat) (h : RoundIn Fence.wide 0 P l f tmps assign body w R) : RoundIn (FF ro) 0 P l f tmps assign body w R := by
 refine ⟨FF_fn _ _, fun c cs _ => ?_⟩
 rw [FF_fenced]
 exact h.2 c cs (room_wide _)
section
variable {P : Program} {Lf : TypeId → List LeafK} {Γ : Glob} {pu : Bool} {ev : Operand → AV} {η : Operand → Value} {K : AV → Sig → Prop} {w : World} {σ : Sig}
theorem rowOf_rep {Γ : Glob} {w : World} {σ : Sig} {b : Nat} {q : List AV × Nat × Nat × Bool} (r : Rel Γ w σ) (h : rowOf (σ b) = some q) : ∃ (vs rest : List Value) (el : TypeId), b < w.heap.size ∧ w.heap[b]? = some (.cells (vs ++ rest).toArray el (0, 0)) ∧ Reps w σ q.1 vs ∧
  (∀ (w' : World) (σ' : Sig) (cs' : List AV) (vs' : List Value), w'.heap[b]? = some (.cells (vs' ++ rest).toArray el (0, 0)) → vs'.length = vs.length → Reps w' σ' cs' vs' → BlkRep w' σ' b (mkB cs' q)) ∧ ∃ y, σ b = some y ∧ ∀ cs' cs s c, mkB cs' q = .row cs s c → ∃ cs0, y = .row cs0 s c := by
 cases hb : σ b with
 | none => rw [hb] at h; cases h
 | some y =>
  rw [hb] at h
  obtain ⟨hbl, hr⟩ := r.blk b y hb
  cases y with
  | row cs s c =>
   cases h
   obtain ⟨vs, rest, el, h3, h4, h5⟩ := hr
   refine ⟨vs, rest, el, hbl, h3, h4, fun w' σ' cs' vs' g1 g2 g3 => ⟨vs', rest, el, g1, g3, ?_⟩, _, rfl, fun cs' cs2 s2 c2 e => ?_⟩
   ·rw [← h5]; simp [g2]
   ·simp only [mkB] at e; cases e; exact ⟨_, rfl⟩
  | var cs el =>
   cases h
   obtain ⟨vs, h3, h4⟩ := hr
   refine ⟨vs, [], el, hbl, by simpa using h3, h4, fun w' σ' cs' vs' g1 g2 g3 => ⟨vs', by simpa using g1, g3⟩, _, rfl, fun cs' cs2 s2 c2 e => ?_⟩
   simp only [mkB] at e; cases e
  | map es => cases h
  | obj o => cases h
  | loop l cs => cases h
theorem load_aok {o : Oper} {t : TypeId} {a : Operand} (ho : o.op = .load t a) (r : Rel Γ w σ) (hev : ∀ x, Rep w σ (ev x) (η x)) (h : aop P Lf Γ pu ev σ (.load t a) K) : AOk P Γ w σ (execOp η o) K := by
 unfold execOp
 rw [ho]
 have ha := hev a
 simp only [aop] at h
 split at h
 ·rename_i cs off he
  obtain ⟨k, x, hk, hx, hK⟩ := h
  rw [he] at ha
  generalize hη : η a = u at ha
  cases ha with
  | pp hc hrun =>
   rename_i vs ad
   have hrun' : ∀ i v, vs[i]? = some v → w.cell? (ad.add i) = some v := fun i v hi => (hrun (by intro e; subst e; simp at hi)).2.2 i v hi
   obtain ⟨v, hv, hrep⟩ := loadVar_ok hk hc hrun' hx
   exact ⟨v, w, x, σ, by simp [Instr.loadAt, Instr.sureAddr, hv, hη], hrep, r, Ext.refl _ _, hK⟩
 ·rename_i b off he
  obtain ⟨k, q, x, hk, hb, hx, hK⟩ := h
  rw [he] at ha
  generalize hη : η a = u at ha
  cases ha
  obtain ⟨vs, rest, el, _, h3, h4, _, _⟩ := rowOf_rep r hb
  obtain ⟨v, hv, hrep⟩ := loadVar_ok (a := ⟨b, 0, none⟩) hk h4 (fun i v hi => by
   rw [plain_add, Nat.zero_add, cell?_row h3]
   have hlt : i < vs.length := by
    rcases Nat.lt_or_ge i vs.length with h | h
    ·exact h
    ·simp [List.getElem?_eq_none h] at hi
   rw [List.getElem?_append_left hlt]
   exact hi) hx
  rw [plain_add, Nat.zero_add] at hv
  exact ⟨v, w, x, σ, by simp [Instr.loadAt, Instr.sureAddr, hv, hη], hrep, r, Ext.refl _ _, hK⟩
 ·exact h.elim
theorem store_ok {t : TypeId} {a x : Operand} (r : Rel Γ w σ) (hev : ∀ x, Rep w σ (ev x) (η x)) (h : aop P Lf Γ pu ev σ (.store t a x) K) :
  ∃ w' σ', (Instr.storeAt t (η a) (η x)).run P w = .ok () w' ∧ Rel Γ w' σ' ∧ Ext w σ w' σ' ∧ K (.v undef) σ' := by
 have ha := hev a
 simp only [aop] at h
 split at h
 ·rename_i b off he
  obtain ⟨k, xs, q, hk, hxs, hlen, hone, hb, hle, hK⟩ := h
  rw [he] at ha
  generalize hη : η a = u at ha
  cases ha
  obtain ⟨vs, rest, el, hbl, h3, h4, h5, y, hy, hyr⟩ := rowOf_rep r hb
  have hx := (hev x).cells hxs
  have hxl := hx.length
  have hcl := h4.length
  have hst := run_storeCells_at P b off el (η x).cells.toList 0 (vs ++ rest).toArray w h3 (by simp at hxl ⊢; omega) (hx.ones hone)
  have hsz : (η x).cells.size = k.size := by simp at hxl; omega
  simp only [Nat.add_zero] at hst
  have hWr : Wr w (w.setRow b ((vs ++ rest).take off ++ (η x).cells.toList ++ (vs ++ rest).drop (off + (η x).cells.toList.length)).toArray) b :=
   ⟨size_setRow _ _ _, fun j hj => setRow_other w b j _ hj, rfl, rfl, rfl⟩
  have eW := Ext.write (σ := σ) (x := mkB (putL q.1 off xs) q) hWr ⟨y, hy, hyr _⟩
  have hput : putL (vs ++ rest) off (η x).cells.toList = putL vs off (η x).cells.toList ++ rest := by
   unfold putL
   rw [List.take_append_of_le_length (by omega), List.drop_append_of_le_length (by omega)]
   simp
  have rW := r.write (x := mkB (putL q.1 off xs) q) hWr ⟨y, hy, hyr _⟩
   (h5 _ _ _ (putL vs off (η x).cells.toList) (by
    rw [setRow_heap w b _ _ _ _ h3, ← hput]
    rfl) (by rw [putL_length _ _ _ (by simp; omega)]) ((h4.putL hx off).ext eW))
  refine ⟨_, _, ?_, rW, eW, hK⟩
  simp only [hη, Instr.storeAt, Instr.sureAddr, storeVar, Sem.run_bind, Sem.run_pure, Result.andThen_ok, run_sizeOf_tk hk, Sem.run_ite]
  rw [if_neg (by simp [hsz])]
  simpa using hst
 ·exact h.elim
theorem alloc_row {cs : List AV} {vs : List Value} {el : TypeId} {s c : Nat} (r : Rel Γ w σ) (h : Reps w σ cs vs) (hl : vs.length = c * s) :
  Rel Γ { w with heap := w.heap.push (.cells vs.toArray el (0, 0)) } (upd σ w.heap.size (some (.row cs s c))) ∧ Ext w σ { w with heap := w.heap.push (.cells vs.toArray el (0, 0)) } (upd σ w.heap.size (some (.row cs s c))) := by
 have e := Ext.alloc (w := w) (σ := σ) (.cells vs.toArray el (0, 0)) (.row cs s c) r.fresh
 exact ⟨r.alloc _ _ ⟨vs, [], el, by simp, h.ext e, by simpa using hl⟩, e⟩
theorem alloc_obj {o : Obj} (r : Rel Γ w σ) :
  Rel Γ { w with heap := w.heap.push o } (upd σ w.heap.size (some (.obj o))) ∧ Ext w σ { w with heap := w.heap.push o } (upd σ w.heap.size (some (.obj o))) :=
 ⟨r.alloc _ _ (by simp [BlkRep]), Ext.alloc _ _ r.fresh⟩
theorem new_aok {o : Oper} {op : Op} (ho : o.op = op) (r : Rel Γ w σ) (hev : ∀ x, Rep w σ (ev x) (η x)) (h : aop P Lf Γ pu ev σ op K)
  (hop : (∃ t, op = .alloc t) ∨ (∃ t x, op = .box t x) ∨ (∃ t n ps, op = .buildSlice t n ps) ∨ (∃ t l c, op = .makeSlice t l c) ∨ (∃ t x, op = .makeMap t x) ∨ (∃ t x, op = .range t x)) : AOk P Γ w σ (execOp η o) K := by
 unfold execOp
 rw [ho]
 rcases hop with ⟨t, rfl⟩ | ⟨t, x, rfl⟩ | ⟨t, n, ps, rfl⟩ | ⟨t, l, c, rfl⟩ | ⟨t, x, rfl⟩ | ⟨t, x, rfl⟩
 ·obtain ⟨k, hk, hK⟩ := h
  obtain ⟨z, hz, hzz⟩ := run_zero_tk hk w
  have hc : Reps w σ k.zero z.cells.toList := by rw [hzz]; exact Reps.vs _
  by_cases ht : t = 286
  ·have hK' := hK _ r.fresh
   rw [allocB, if_pos ht] at hK'
   have e' := Ext.alloc (w := w) (σ := σ) (.cells z.cells t (0, 0)) (.var k.zero t) r.fresh
   have r' := r.alloc (.cells z.cells t (0, 0)) (.var k.zero t) ⟨z.cells.toList, by simp, hc.ext e'⟩
   exact ⟨.pointer (some ⟨w.heap.size, 0, none⟩), _, _, _, by simp [Instr.alloc, hz, newVar, newRow], .v _, r', e', hK'⟩
  ·have hK' := hK _ r.fresh
   rw [allocB, if_neg ht] at hK'
   obtain ⟨r', e'⟩ := alloc_row (el := t) (s := k.zero.length) (c := 1) r hc (by rw [← hc.length]; simp)
   exact ⟨.pointer (some ⟨w.heap.size, 0, none⟩), _, _, _, by simp [Instr.alloc, hz, newVar, newRow], .v _, r', e', hK'⟩
 ·simp only [aop] at h
  split at h
  ·rename_i hp
   have := NOk.aok r (dop_ok (o := o) ho r.fresh hev h)
   unfold execOp at this
   rw [ho] at this
   exact this
  ·obtain ⟨xs, hxs, hK⟩ := h
   have hc := (hev x).cells hxs
   obtain ⟨r', e'⟩ := alloc_row (el := t) (s := xs.length) (c := 1) r hc (by rw [← hc.length]; simp)
   exact ⟨.pointer (some ⟨w.heap.size, 0, none⟩), _, _, _, by simp [Instr.box, newVar, newRow], .v _, r', e', hK _ r.fresh⟩
 ·simp only [aop] at h
  split at h
  ·have := NOk.aok r (dop_ok (o := o) ho r.fresh hev h)
   unfold execOp at this
   rw [ho] at this
   exact this
  ·obtain ⟨e, k, cs, he, hk, hks, hn, hkl, hzl, hfill, hK⟩ := h
   obtain ⟨vr, hrun, h2, hlen⟩ := buildSlice_run hev he hk hks hn hkl hzl hfill
   obtain ⟨r', e'⟩ := alloc_row (el := e) (s := k.size) (c := n) r h2 (by rw [← h2.length]; exact hlen)
   refine ⟨_, _, _, _, by simp only [Sem.run_bind, hrun, Result.andThen_ok, Sem.run_pure]; rfl, ?_, r', e', hK _ r.fresh⟩
   refine .own (by simp) (Nat.le_refl _) (fun _ => by simp) (fun cs' s' c' hc => ?_)
   rw [upd_same] at hc
   cases hc
   exact ⟨rfl, rfl⟩
 ·simp only [aop] at h
  split at h
  ·rename_i n m hl hc
   obtain ⟨e, k, he, hk, hks, hzl, h0, hnm, hby, hmx, hK⟩ := h
   have hl' := hev l
   have hc' := hev c
   rw [hl] at hl'; rw [hc] at hc'
   generalize hη : η l = u at hl'
   generalize hη' : η c = u' at hc'
   cases hl'; cases hc'
   obtain ⟨z, hz, hzero⟩ := run_zero_tk hk w
   have hzs : z.cells.size = k.size := by have := congrArg List.length hzero; simp at this; omega
   obtain ⟨i, d, z', hi, hd, hz', hkk⟩ := tkOf_some hk
   have hbytes : P.bytesOf e = i.bytes := by simp [Program.bytesOf, hi]
   rw [hbytes] at hby
   have wn : IntKind.i64.wrap n = n := IntWalk.i64_in n ⟨by omega, by omega⟩
   have wm : IntKind.i64.wrap m = m := IntWalk.i64_in m ⟨by omega, by omega⟩
   have hm0 : ¬ m < 0 := by omega
   have hn0 : ¬ n < 0 := by omega
   have hlt : ¬ m < n := by omega
   have hbig : ¬ ((2 : Int) ^ 48 < (i.bytes : Int) * m) := by omega
   have hmade := made_cells z.cells m.toNat
   rw [hzs] at hmade
   have hrep : Reps w σ (List.replicate m.toNat k.zero).flatten ((Array.range (m.toNat * k.size)).map (z.cells[· % z.cells.size]!)).toList := by
    rw [hzs, hmade, hzero]; exact replicate_reps (Reps.vs _) _
   obtain ⟨r', e'⟩ := alloc_row (el := e) (s := k.size) (c := m.toNat) r hrep (by simp)
   have hrun : (Instr.makeSlice t (.int .i64 n) (.int .i64 m)).run P w = .ok (.slice (some ⟨w.heap.size, 0, none⟩) n.toNat m.toNat) { w with heap := w.heap.push (.cells ((Array.range (m.toNat * k.size)).map (z.cells[· % z.cells.size]!)).toList.toArray e (0, 0)) } := by
    simp only [Instr.makeSlice, Sem.run_bind, run_underlying (elemOf_slice he), Result.andThen_ok, asInt, asIntOf, Sem.run_pure, typeInfo, run_program, hi, wn, wm, Sem.run_ite]
    rw [if_neg (by simp [hm0, hn0, hlt]; omega)]
    by_cases hz0 : m.toNat * k.size = 0
    ·have hm' : m.toNat = 0 := (Nat.mul_eq_zero.1 hz0).resolve_right hks
     simp [hm', run_sizeOf_tk hk, newRow]
     congr 2
     apply Array.ext'; simp
    ·simp [hz0, run_sizeOf_tk hk, hz, newRow]
     congr 2
     apply Array.ext'; simp
   refine ⟨_, _, _, _, by simp only [hη, hη', Sem.run_bind, hrun, Result.andThen_ok, Sem.run_pure]; rfl, ?_, r', e', hK _ r.fresh⟩
   refine .own (by simp) (by omega) (fun _ => by simp) (fun cs' s' c' hc => ?_)
   rw [upd_same] at hc
   cases hc
   exact ⟨rfl, by omega⟩
  ·exact h.elim
 ·simp only [aop] at h
  cases x with
  | none =>
   obtain ⟨r', e'⟩ : Rel Γ { w with heap := w.heap.push (.map #[] 0) } (upd σ w.heap.size (some (.map []))) ∧ Ext w σ { w with heap := w.heap.push (.map #[] 0) } (upd σ w.heap.size (some (.map []))) := by
    have e := Ext.alloc (w := w) (σ := σ) (.map #[] 0) (.map []) r.fresh
    exact ⟨r.alloc _ _ ⟨#[], 0, by simp, .nil, .nil⟩, e⟩
   exact ⟨.map (some w.heap.size), _, _, _, by simp [Instr.makeMap], .v _, r', e', h _ r.fresh⟩
  | some x => exact h.elim
 ·simp only [aop] at h
  split at h
  ·rename_i s he
   obtain ⟨hu, hK⟩ := h
   have hx := hev x
   rw [he] at hx
   generalize hη : η x = u at hx
   cases hx
   obtain ⟨r', e'⟩ := alloc_obj (o := .stringIter s 0) r
   exact ⟨.pointer (some ⟨w.heap.size, 0, none⟩), _, _, _, by simp [Instr.range, run_underlying hu, hη], .v _, r', e', hK _ r.fresh⟩
  ·exact h.elim
theorem next_aok {o : Oper} {it : Operand} (ho : o.op = .next it true) (r : Rel Γ w σ) (hev : ∀ x, Rep w σ (ev x) (η x)) (h : aop P Lf Γ pu ev σ (.next it true) K) : AOk P Γ w σ (execOp η o) K := by
 unfold execOp
 rw [ho]
 simp only [aop] at h
 split at h
 ·rename_i b he
  obtain ⟨s, pos, hb, h1, h2⟩ := h
  have hx := hev it
  rw [he] at hx
  generalize hη : η it = u at hx
  cases hx
  have hblk : w.heap[b]? = some (.stringIter s pos) := (r.blk b _ hb).2
  by_cases hp : pos < s.size
  ·have hWr : Wr w { w with heap := w.heap.setIfInBounds b (.stringIter s (pos + (Utf8.decode s pos).2)) } b := Wr.set w b _
   have eW := Ext.write (σ := σ) (x := .obj (.stringIter s (pos + (Utf8.decode s pos).2))) hWr ⟨_, hb, fun _ _ _ e => by cases e⟩
   have rW := r.write (x := .obj (.stringIter s (pos + (Utf8.decode s pos).2))) hWr ⟨_, hb, fun _ _ _ e => by cases e⟩
    (by simp [BlkRep, (r.blk b _ hb).1])
   refine ⟨.tuple #[.bool true, .int .i64 pos, .int .i32 (Utf8.decode s pos).1], _, _, _, ?_, .tup (.cons (.v _) (.cons (.v _) (.cons (.v _) .nil))), rW, eW, h2 hp⟩
   simp only [hη, Instr.next, getObj, setObj, Sem.run_bind, Sem.run, hblk, Result.andThen_ok, hp, if_true, Sem.run_pure, goInt, Sem.run_ite]
  ·refine ⟨.tuple #[.bool false], w, _, _, ?_, .tup (.cons (.v _) .nil), r, Ext.refl _ _, h1 hp⟩
   simp only [hη, Instr.next, getObj, Sem.run_bind, Sem.run, hblk, Result.andThen_ok, hp, if_false, Sem.run_pure, Sem.run_ite]
 ·exact h.elim
def AfterOp (Γ : Glob) (σ : Sig) (K : AV → Sig → Prop) (o : Oper) (a : Act) (w : World) : Act → World → Prop :=
 fun a' w' => ∃ v r σ', a' = a.put o.dst v ∧ Rep w' σ' r v ∧ Rel Γ w' σ' ∧ Ext w σ w' σ' ∧ K r σ'
theorem wpIn_of_aok {ro : Option Nat} {o : Oper} {a : Act} {Q : Exit → Act → World → Prop} (hnd : ∀ c, o.op ≠ .defer c) (h : AOk P Γ w σ (execOp a.eval o) K) : o.wpIn (FF ro) 0 P a w (AfterOp Γ σ K o a w) Q := by
 refine ⟨fun f _ => FF_fn _ _, ?_⟩
 rw [Oper.semAt_eq _ _ _ hnd]
 obtain ⟨v, w', r, σ', h1, h2, h3, h4, h5⟩ := h
 rw [h1]
 exact ⟨v, r, σ', rfl, h2, h3, h4, h5⟩
theorem wpIn_of_fcalls {ro : Option Nat} {o : Oper} {a : Act} {Q : Exit → Act → World → Prop} {c : Call} {f : Operand} (ho : o.op = .call c) (hc : c.callee = .value f) {fv : AV} {args : List AV} (hf : Rep w σ fv (a.eval f)) (hargs : Reps w σ args (c.args.toList.map a.eval))
  (r : Rel Γ w σ) (h : FCalls P Γ fv args σ K) : o.wpIn (FF ro) 0 P a w (AfterOp Γ σ K o a w) Q := by
 refine ⟨fun f _ => FF_fn _ _, ?_⟩
 rw [Oper.semAt_eq _ _ _ (by rw [ho]; simp)]
 have := h w _ _ r hf hargs
 have e : execOp a.eval o = (do let d ← Deferred.ofValue (a.eval f) (c.args.toList.map a.eval).toArray; invoke d.target d.args) := by
  unfold execOp
  rw [ho]
  simp only [resolve, hc]
  congr 2
  apply Array.ext'
  simp
 rw [e]
 unfold VCall at this
 split at this
 ·rename_i g gargs w' hrun
  rw [hrun]
  refine ⟨fun hd => by simp at hd, ?_⟩
  refine CallsIn.ff ro ⟨this.1, fun cs hroom => ?_⟩
  obtain ⟨e', w'', fr, ⟨v, x, σ', h1, h2, h3, h4, h5⟩, hcm⟩ := this.2 cs hroom
  subst h1
  exact ⟨.returned v, w'', fr, ⟨v, x, σ', rfl, h2, h3, h4, h5⟩, hcm⟩
 ·rename_i l g tmps assign body w' hrun
  rw [hrun]
  refine ⟨fun hd => by simp at hd, ?_⟩
  refine RoundIn.ff ro ⟨this.1, fun cc cs hroom => ?_⟩
  obtain ⟨e', w'', ⟨v, x, σ', h1, h2, h3, h4, h5⟩, hcm⟩ := this.2 cc cs hroom
  subst h1
  exact ⟨.returned v, w'', ⟨v, x, σ', rfl, h2, h3, h4, h5⟩, hcm⟩
 ·exact this.elim
theorem aop_wp {ro : Option Nat} {o : Oper} {op : Op} {ρ : Env} {a : Act} {Q : Exit → Act → World → Prop} (ho : o.op = op) (r : Rel Γ w σ) (ha : Act.Is w σ ρ a) (h : aop P Lf Γ pu (aev Γ ρ) σ op K) :
  o.wpIn (FF ro) 0 P a w (AfterOp Γ σ K o a w) Q := by
 have hev : ∀ x, Rep w σ (aev Γ ρ x) (a.eval x) := fun x => ha.eval r x
 have det : ∀ {op : Op}, o.op = op → (∀ c, op ≠ .defer c) → dop P Lf pu (aev Γ ρ) op (fun x => K x σ) → o.wpIn (FF ro) 0 P a w (AfterOp Γ σ K o a w) Q := fun ho hnd hd =>
  wpIn_of_aok (by rw [ho]; exact hnd) (NOk.aok r (dop_ok ho r.fresh hev hd))
 cases op with
 | load t x => exact wpIn_of_aok (by rw [ho]; simp) (load_aok ho r hev h)
 | store t x y =>
  refine ⟨fun f _ => FF_fn _ _, ?_⟩
  rw [Oper.semAt_eq _ _ _ (by rw [ho]; simp)]
  obtain ⟨w', σ', h1, h2, h3, h4⟩ := store_ok r hev h
  have e : (execOp a.eval o).run P w = .ok .skip w' := by
   unfold execOp
   rw [ho]
   simp [h1]
  rw [e]
  exact ⟨undef, _, σ', rfl, .v _, h2, h3, h4⟩
 | alloc t => exact wpIn_of_aok (by rw [ho]; simp) (new_aok ho r hev h (.inl ⟨t, rfl⟩))
 | box t x => exact wpIn_of_aok (by rw [ho]; simp) (new_aok ho r hev h (.inr (.inl ⟨t, x, rfl⟩)))
 | buildSlice t n ps => exact wpIn_of_aok (by rw [ho]; simp) (new_aok ho r hev h (.inr (.inr (.inl ⟨t, n, ps, rfl⟩))))
 | makeSlice t l c => exact wpIn_of_aok (by rw [ho]; simp) (new_aok ho r hev h (.inr (.inr (.inr (.inl ⟨t, l, c, rfl⟩)))))
 | makeMap t x => exact wpIn_of_aok (by rw [ho]; simp) (new_aok ho r hev h (.inr (.inr (.inr (.inr (.inl ⟨t, x, rfl⟩))))))
 | range t x => exact wpIn_of_aok (by rw [ho]; simp) (new_aok ho r hev h (.inr (.inr (.inr (.inr (.inr ⟨t, x, rfl⟩))))))
 | next it b =>
  cases b with
  | true => exact wpIn_of_aok (by rw [ho]; simp) (next_aok ho r hev h)
  | false => exact h.elim
 | lookup t m k ok =>
  obtain ⟨v, w', x', σ', g1, g2, g3, g4, g5⟩ := h w [a.eval m, a.eval k] r (.cons (hev m) (.cons (hev k) .nil))
  refine wpIn_of_aok (by rw [ho]; simp) ⟨v, w', x', σ', ?_, g2, g3, g4, g5⟩
  have g1' : (Instr.lookup t (a.eval m) (a.eval k) ok).run P w = .ok v w' := g1
  unfold execOp
  rw [ho]
  simp only [Sem.run_bind, g1', Result.andThen_ok, Sem.run_pure]
 | mapUpdate t m k x =>
  obtain ⟨v, w', x', σ', g1, g2, g3, g4, g5⟩ := h w [a.eval m, a.eval k, a.eval x] r (.cons (hev m) (.cons (hev k) (.cons (hev x) .nil)))
  have g1' : (do Instr.mapUpdate t (a.eval m) (a.eval k) (a.eval x); pure undef : Sem Value).run P w = .ok v w' := g1
  rw [Sem.run_bind] at g1'
  refine ⟨fun f _ => FF_fn _ _, ?_⟩
  rw [Oper.semAt_eq _ _ _ (by rw [ho]; simp)]
  cases hr : (Instr.mapUpdate t (a.eval m) (a.eval k) (a.eval x)).run P w with
  | ok y w2 =>
   rw [hr] at g1'
   simp only [Result.andThen_ok, Sem.run_pure] at g1'
   cases g1'
   have e : (execOp a.eval o).run P w = .ok .skip w' := by
    unfold execOp
    rw [ho]
    simp [hr]
   rw [e]
   exact ⟨undef, _, σ', rfl, g2, g3, g4, g5⟩
  | halt y w2 => rw [hr] at g1'; cases g1'
 | call c =>
  have old := h
  simp only [aop] at h
  split at h
  ·rename_i hc
   split at h
   ·rename_i s x t0 t1 h1 h2
    obtain ⟨v, w', x', σ', g1, g2, g3, g4, g5⟩ := h o.type w [a.eval s, a.eval x] r (.cons (hev s) (.cons (hev x) .nil))
    refine wpIn_of_aok (by rw [ho]; simp) ⟨v, w', x', σ', ?_, g2, g3, g4, g5⟩
    have e1 : c.args.map a.eval = #[a.eval s, a.eval x] := by apply Array.ext'; simp [h1]
    have e2 : c.argTypes = #[t0, t1] := by apply Array.ext'; simp [h2]
    unfold execOp
    rw [ho]
    simp only [resolve, hc, Sem.run_bind, Sem.run_pure, Result.andThen_ok, invoke, builtin, e1, e2]
    simp only [g1, Result.andThen_ok]
   ·exact h.elim
  ·rename_i hc
   split at h
   ·rename_i s x t0 t1 h1 h2
    obtain ⟨v, w', x', σ', g1, g2, g3, g4, g5⟩ := h o.type w [a.eval s, a.eval x] r (.cons (hev s) (.cons (hev x) .nil))
    refine wpIn_of_aok (by rw [ho]; simp) ⟨v, w', x', σ', ?_, g2, g3, g4, g5⟩
    have e1 : c.args.map a.eval = #[a.eval s, a.eval x] := by apply Array.ext'; simp [h1]
    have e2 : c.argTypes = #[t0, t1] := by apply Array.ext'; simp [h2]
    unfold execOp
    rw [ho]
    simp only [resolve, hc, Sem.run_bind, Sem.run_pure, Result.andThen_ok, invoke, builtin, e1, e2]
    simp only [g1, Result.andThen_ok]
   ·exact h.elim
  ·rename_i hc
   split at h
   ·rename_i s x h1
    obtain ⟨v, w', x', σ', g1, g2, g3, g4, g5⟩ := h o.type w [a.eval s, a.eval x] r (.cons (hev s) (.cons (hev x) .nil))
    refine wpIn_of_aok (by rw [ho]; simp) ⟨v, w', x', σ', ?_, g2, g3, g4, g5⟩
    have e1 : c.args.map a.eval = #[a.eval s, a.eval x] := by apply Array.ext'; simp [h1]
    unfold execOp
    rw [ho]
    simp only [resolve, hc, Sem.run_bind, Sem.run_pure, Result.andThen_ok, invoke, builtin, e1]
    simp only [g1, Result.andThen_ok]
   ·exact h.elim
  ·rename_i f hc
   exact wpIn_of_fcalls ho hc (hev f) (reps_map hev _) r (callOp_ok h)
  ·exact det ho (by simp) h
 | defer c => exact h.elim
 | _ => first | exact h.elim | exact det ho (by simp) h
end
end Go.AL
