import Derived.Test.YtjimmpldofoimaaGreatDoorAlDop
set_option linter.unusedVariables false
set_option linter.unusedSimpArgs false
namespace Go.AL
def DOk (P : Program) (w : World) (σ : Sig) (s : Sem Value) (K : AV → Prop) : Prop :=
 ∃ v w' r, s.run P w = .ok v w' ∧ Calm w w' ∧ Rep w' σ r v ∧ K r
theorem DOk.same {P : Program} {w : World} {σ : Sig} {s : Sem Value} {K : AV → Prop} {v : Value} {r : AV} (h : s.run P w = .ok v w) (hr : Rep w σ r v) (hK : K r) : DOk P w σ s K :=
 ⟨v, w, r, h, Calm.refl w, hr, hK⟩
section
variable {P : Program} {Lf : TypeId → List LeafK} {pu : Bool} {ev : Operand → AV} {η : Operand → Value} {K : AV → Prop} {w : World} {σ : Sig}
theorem reps_map (hev : ∀ x, Rep w σ (ev x) (η x)) : ∀ (l : List Operand), Reps w σ (l.map ev) (l.map η)
 | [] => .nil
 | x :: l => .cons (hev x) (reps_map hev l)
theorem reps_parts (hev : ∀ x, Rep w σ (ev x) (η x)) : ∀ (l : List (Nat × Operand)), Reps w σ ((l.map fun p => (p.1, ev p.2)).map (·.2)) ((l.map fun p => (p.1, η p.2)).map (·.2))
 | [] => .nil
 | p :: l => .cons (hev p.2) (reps_parts hev l)
theorem mapM_placesL (w : World) : ∀ {fs : List Field} {l : List (Nat × Nat)}, fs.mapM (fun f => (tkOf P f.type).map fun k => (f.offset, k.size)) = some l →
   (fs.mapM (fun f => do pure (f.offset, ← sizeOf f.type)) : Sem (List (Nat × Nat))).run P w = .ok l w
 | [], l, h => by simp at h; subst h; simp
 | f :: fs, l, h => by
  simp only [List.mapM_cons, Option.bind_eq_bind, Option.bind_eq_some_iff, Option.map_eq_some_iff] at h
  obtain ⟨a, ⟨k, hk, rfl⟩, l', h', h''⟩ := h
  cases h''
  have ih := mapM_placesL w h'
  simp only [List.mapM_cons, Sem.run_bind, run_sizeOf_tk hk, Result.andThen_ok, Sem.run_pure, ih]
theorem mapM_places {fs : List Field} {l : List (Nat × Nat)} (h : fs.mapM (fun f => (tkOf P f.type).map fun k => (f.offset, k.size)) = some l) (w : World) :
  (fs.toArray.mapM (fun f => do pure (f.offset, ← sizeOf f.type)) : Sem (Array (Nat × Nat))).run P w = .ok l.toArray w := by
 have := mapM_placesL w h
 rw [List.mapM_toArray, Sem.run_map, this]
 rfl
theorem build_ok {t : TypeId} {parts : Array (Nat × Operand)} (hev : ∀ x, Rep w σ (ev x) (η x)) (h : dop P Lf pu ev (.build t parts) K) :
  DOk P w σ (Instr.build t (parts.map fun (i, x) => (i, η x))) K := by
 obtain ⟨k, pl, cs, hk, hpl, hfill, hK⟩ := h
 obtain ⟨z, hz, hzero⟩ := run_zero_tk hk w
 have hparts : (parts.map fun (x : Nat × Operand) => (x.1, η x.2)).toList = parts.toList.map fun p => (p.1, η p.2) := by simp
 obtain ⟨vr, h1, h2⟩ := fillA_ok (w := w) (σ := σ) (vparts := parts.toList.map fun p => (p.1, η p.2)) (vcells := z.cells) hfill (by rw [hzero]; exact Reps.vs _) (by simp) (reps_parts hev _)
 refine .same (v := .agg vr) ?_ ?_ hK
 ·unfold places at hpl
  split at hpl
  ·rename_i fs hfs
   split at hpl
   ·rename_i l hl
    obtain rfl := Option.some.inj hpl
    simp only [Instr.build, Sem.run_bind, hz, Result.andThen_ok, run_underlying (fieldsOf_some hfs), mapM_places hl w]
    have : (fun (i : Nat) => l.toArray[i]?) = fun (i : Nat) => l[i]? := by funext i; simp
    simp only [hparts, this, h1]
    rfl
   ·cases hpl
  ·split at hpl
   ·rename_i n e he
    simp only [Option.map_eq_some_iff] at hpl
    obtain ⟨k', hk', rfl⟩ := hpl
    simp only [Instr.build, Sem.run_bind, hz, Result.andThen_ok, run_underlying (elemOf_array he), run_sizeOf_tk hk', hparts, h1]
    rfl
   ·cases hpl
 ·have := Rep.agg h2
  simpa using this
theorem made_cells (z : Array Value) (n : Nat) : ((Array.range (n * z.size)).map (z[· % z.size]!)).toList = (List.replicate n z.toList).flatten := by
 simp only [Array.toList_map, Array.toList_range]
 induction n with
 | zero => simp
 | succ n ih =>
  rw [Nat.succ_mul, List.range_add, List.map_append, ih, List.replicate_succ', List.flatten_append]
  congr 1
  simp only [List.map_map, List.flatten_cons, List.flatten_nil, List.append_nil]
  apply List.ext_getElem?
  intro i
  simp only [List.getElem?_map, Function.comp]
  by_cases hi : i < z.size
  ·rw [List.getElem?_range hi]
   simp [Nat.mod_eq_of_lt hi, hi]
  ·rw [List.getElem?_eq_none (by simp; omega), List.getElem?_eq_none (by simp; omega)]
   rfl
theorem replicate_reps {zs : List AV} {vs : List Value} (h : Reps w σ zs vs) : ∀ (n : Nat), Reps w σ (List.replicate n zs).flatten (List.replicate n vs).flatten
 | 0 => .nil
 | n + 1 => by
  simp only [List.replicate_succ, List.flatten_cons]
  exact h.append (replicate_reps h n)
theorem runAt_new {o : List Value} {el : TypeId} (hf : σ w.heap.size = none) : RunAt { w with heap := w.heap.push (.cells o.toArray el (0, 0)) } σ ⟨w.heap.size, 0, none⟩ o := fun _ =>
 ⟨by simp, hf, fun i v hi => by rw [plain_add, Nat.zero_add]; simp [World.cell?, hi]⟩
theorem fillA_length {place : Nat → Option (Nat × Nat)} : ∀ {parts : List (Nat × AV)} {cells r : List AV}, fillA place cells parts = some r → r.length = cells.length
 | [], cells, r, h => by simp only [fillA, Option.some.injEq] at h; rw [h]
 | (i, x) :: parts, cells, r, h => by
  simp only [fillA] at h
  split at h
  ·rename_i off size xs hpl hxs
   split at h
   ·rename_i hc
    rw [fillA_length h, putL_length _ _ _ (by omega)]
   ·cases h
  ·cases h
theorem buildSlice_run {t : TypeId} {n : Nat} {parts : Array (Nat × Operand)} (hev : ∀ x, Rep w σ (ev x) (η x)) {e : TypeId} {k : TK} {cs : List AV}
  (he : elemOf P t = some (none, e)) (hk : tkOf P e = some k) (hks : k.size ≠ 0) (hn : n ≤ 65536) (hkl : k.size ≤ 256) (hzl : k.zero.length = k.size)
  (hfill : fillA (fun i => some (i * k.size, k.size)) (List.replicate n k.zero).flatten (parts.toList.map fun p => (p.1, ev p.2)) = some cs) :
  ∃ vr : Array Value, (Instr.buildSlice t n (parts.map fun (i, x) => (i, η x))).run P w = .ok (.slice (some ⟨w.heap.size, 0, none⟩) n n) { w with heap := w.heap.push (.cells vr e (0, 0)) } ∧ Reps w σ cs vr.toList ∧ cs.length = n * k.size := by
 obtain ⟨z, hz, hzero⟩ := run_zero_tk hk w
 have hzs : z.cells.size = k.size := by have := congrArg List.length hzero; simp at this; omega
 have hparts : (parts.map fun (x : Nat × Operand) => (x.1, η x.2)).toList = parts.toList.map fun p => (p.1, η p.2) := by simp
 obtain ⟨vr, h1, h2⟩ := fillA_ok (w := w) (σ := σ) (vparts := parts.toList.map fun p => (p.1, η p.2)) (vcells := (Array.range (n * z.cells.size)).map (z.cells[· % z.cells.size]!)) hfill
  (by rw [made_cells, hzero]; exact replicate_reps (Reps.vs _) n) (by simp) (reps_parts hev _)
 have hle : ¬ n * k.size > 2 ^ 24 := by
  have : n * k.size ≤ 65536 * 256 := Nat.mul_le_mul hn hkl
  omega
 refine ⟨vr, ?_, h2, by rw [fillA_length hfill]; simp [hzl]⟩
 simp only [Instr.buildSlice, Sem.run_bind, run_underlying (elemOf_slice he), Result.andThen_ok, run_sizeOf_tk hk, Sem.run_ite, hle, if_false, Sem.run_pure]
 by_cases h0 : n * k.size = 0
 ·have hn0 : n = 0 := by rcases Nat.mul_eq_zero.1 h0 with h | h; exact h; exact absurd h hks
  subst hn0
  have hvz : ((Array.range (0 * z.cells.size)).map (z.cells[· % z.cells.size]!)) = ((Array.range (0 * k.size)).map ((#[] : Array Value)[· % (#[] : Array Value).size]!)) := by simp
  rw [hvz, Nat.zero_mul] at h1
  simp only [h0, if_true, Result.andThen_ok, Sem.run_pure, hparts, h1]
  rfl
 ·rw [hzs] at h1
  simp only [h0, if_false, Sem.run_bind, hz, Result.andThen_ok, Sem.run_pure, hparts]
  simp only [hzs, h1]
  rfl
theorem buildSlice_ok {t : TypeId} {n : Nat} {parts : Array (Nat × Operand)} (hf : σ w.heap.size = none) (hev : ∀ x, Rep w σ (ev x) (η x)) (h : dop P Lf pu ev (.buildSlice t n parts) K) :
  DOk P w σ (Instr.buildSlice t n (parts.map fun (i, x) => (i, η x))) K := by
 obtain ⟨hp, e, k, cs, he, hk, hks, hn, hkl, hzl, hfill, hK⟩ := h
 obtain ⟨vr, hrun, h2, _⟩ := buildSlice_run hev he hk hks hn hkl hzl hfill
 have ext := Ext.allocPure (w := w) (σ := σ) (.cells vr e (0, 0))
 have hr := runAt_new (w := w) (σ := σ) (o := vr.toList) (el := e) hf
 refine ⟨_, _, _, hrun, Calm.push w _, ?_, hK⟩
 cases n with
 | zero => exact .e0 _
 | succ n => exact .sl (h2.ext ext) (by simpa using hr) (Nat.le_refl _)
theorem box_ok {t : TypeId} {x : Operand} (hf : σ w.heap.size = none) (hev : ∀ x, Rep w σ (ev x) (η x)) (h : dop P Lf pu ev (.box t x) K) : DOk P w σ (Instr.box t (η x)) K := by
 obtain ⟨hp, cs, hcs, hK⟩ := h
 have hc := (hev x).cells hcs
 have ext := Ext.allocPure (w := w) (σ := σ) (.cells (η x).cells t (0, 0))
 have hr := runAt_new (w := w) (σ := σ) (o := (η x).cells.toList) (el := t) hf
 refine ⟨.pointer (some ⟨w.heap.size, 0, none⟩), { w with heap := w.heap.push (.cells (η x).cells t (0, 0)) }, _, by simp [Instr.box, newVar, newRow], Calm.push w _, ?_, hK⟩
 have := Rep.pp (off := 0) (hc.ext ext) (by simpa using hr)
 simpa [Addr.add] using this
theorem fieldAddr_ok {t : TypeId} {x : Operand} {f : Nat} (hev : ∀ x, Rep w σ (ev x) (η x)) (h : dop P Lf pu ev (.fieldAddr t x f) K) : DOk P w σ (Instr.fieldAt t (η x) f) K := by
 obtain ⟨fs, fd, k, hfs, hfd, hk, hk0, h⟩ := h
 have hx := hev x
 have place : ∀ a : Addr, (fieldPlace a fd).run P w = .ok (a.add fd.offset) w := fun a => by simp [fieldPlace, run_sizeOf_tk hk, hk0]
 have hfd' : fs.toArray[f]? = some fd := by simpa using hfd
 split at h
 ·rename_i b off he
  rw [he] at hx
  generalize hη : η x = u at hx
  cases hx
  refine .same (v := .pointer (some ⟨b, off + fd.offset, none⟩)) ?_ (.v _) h
  simp only [Instr.fieldAt, Sem.run_bind, run_underlying (fieldsOf_some hfs), Result.andThen_ok, hfd', Instr.sureAddr, Sem.run_pure, place, plain_add]
 ·rename_i cs off he
  rw [he] at hx
  generalize hη : η x = u at hx
  cases hx with
  | pp hr hrun =>
   rename_i vs a
   refine .same (v := .pointer (some (a.add (off + fd.offset)))) ?_ (.pp hr hrun) h
   simp only [Instr.fieldAt, Sem.run_bind, run_underlying (fieldsOf_some hfs), Result.andThen_ok, hfd', Instr.sureAddr, Sem.run_pure, place, add_add]
 ·exact h.elim
theorem field_ok {t : TypeId} {x : Operand} {f : Nat} (hev : ∀ x, Rep w σ (ev x) (η x)) (h : dop P Lf pu ev (.field t x f) K) : DOk P w σ (Instr.field t (η x) f) K := by
 obtain ⟨fs, fd, k, hfs, hfd, hk, h⟩ := h
 have hx := hev x
 have hfd' : fs.toArray[f]? = some fd := by simpa using hfd
 split at h
 ·rename_i cs he
  obtain ⟨r, hr, hK⟩ := h
  rw [he] at hx
  generalize hη : η x = u at hx
  cases hx with
  | agg hc =>
   obtain ⟨v, hv, hrep⟩ := part_ok hk hc hr
   refine .same (v := v) ?_ hrep hK
   simp only [Instr.field, Sem.run_bind, run_underlying (fieldsOf_some hfs), Result.andThen_ok, hfd', asAgg, Sem.run_pure, hv]
 ·exact h.elim
theorem index_ok {t : TypeId} {x i : Operand} (hev : ∀ x, Rep w σ (ev x) (η x)) (h : dop P Lf pu ev (.index t x i) K) : DOk P w σ (Instr.index t (η x) (η i)) K := by
 have hx := hev x
 have hi := hev i
 simp only [dop] at h
 split at h
 ·rename_i cs ik n he hie
  obtain ⟨m, e, k, hel, hk, h0, hn, r, hr, hK⟩ := h
  rw [he] at hx; rw [hie] at hi
  generalize η x = u at hx ⊢
  generalize η i = j at hi ⊢
  cases hi
  cases hx with
  | agg hc =>
   obtain ⟨v, hv, hrep⟩ := part_ok hk hc hr
   refine .same (v := v) ?_ hrep hK
   simp only [Instr.index, Sem.run_bind, asIntOf, Sem.run_pure, Result.andThen_ok, run_underlying (elemOf_array hel)]
   rw [if_pos ⟨h0, hn⟩]
   simp only [Sem.run_bind, run_sizeOf_tk hk, Result.andThen_ok, hv]
 ·rename_i s ik n he hie
  obtain ⟨hu, h0, hn, hK⟩ := h
  rw [he] at hx; rw [hie] at hi
  generalize η x = u at hx ⊢
  generalize η i = j at hi ⊢
  cases hi
  cases hx
  refine .same (v := .int .u8 (s[n.toNat]).toNat) ?_ (.v _) hK
  have hs : (s[n.toNat]? : Option UInt8) = some s[n.toNat] := by simp [hn]
  simp only [Instr.index, Sem.run_bind, asIntOf, Sem.run_pure, Result.andThen_ok, run_underlying hu, h0, if_true, hs]
 ·exact h.elim
theorem indexAddr_ok {t : TypeId} {x i : Operand} (hev : ∀ x, Rep w σ (ev x) (η x)) (h : dop P Lf pu ev (.indexAddr t x i) K) : DOk P w σ (Instr.indexAt t (η x) (η i)) K := by
 have hx := hev x
 have hi := hev i
 simp only [dop] at h
 split at h
 ·rename_i ik n hie
  rw [hie] at hi
  generalize η i = j at hi ⊢
  cases hi
  split at h
  ·rename_i cs m he
   obtain ⟨e, k, hel, hk, h0, hn, hK⟩ := h
   rw [he] at hx
   generalize η x = u at hx ⊢
   cases hx with
   | slnil => omega
   | sl hc hrun hcap =>
    rename_i vs a cap
    refine .same (v := .pointer (some (a.add (n.toNat * k.size)))) ?_ (.pp hc hrun) hK
    simp only [Instr.indexAt, Sem.run_bind, asIntOf, Sem.run_pure, Result.andThen_ok, run_underlying (elemOf_slice hel)]
    rw [if_pos ⟨h0, hn⟩]
    simp only [Sem.run_bind, run_sizeOf_tk hk, Result.andThen_ok, Sem.run_pure]
  ·rename_i b s off m he
   obtain ⟨e, k, hel, hk, hks, h0, hn, hK⟩ := h
   rw [he] at hx
   generalize η x = u at hx ⊢
   cases hx with
   | own hb hcap ha hrow =>
    rename_i a cap
    have hc0 : cap ≠ 0 := by omega
    obtain rfl := ha hc0
    refine .same (v := .pointer (some ⟨b, (off + n.toNat) * s, none⟩)) ?_ (.v _) hK
    simp only [Instr.indexAt, Sem.run_bind, asIntOf, Sem.run_pure, Result.andThen_ok, run_underlying (elemOf_slice hel)]
    rw [if_pos ⟨h0, hn⟩]
    simp only [Sem.run_bind, run_sizeOf_tk hk, Result.andThen_ok, Sem.run_pure, plain_add, hks, Nat.add_mul]
  ·rename_i cs off he
   obtain ⟨m, e, k, hel, hk, h0, hn, hK⟩ := h
   rw [he] at hx
   generalize η x = u at hx ⊢
   cases hx with
   | pp hc hrun =>
    rename_i vs a
    refine .same (v := .pointer (some (a.add (off + n.toNat * k.size)))) ?_ (.pp hc hrun) hK
    simp only [Instr.indexAt, Sem.run_bind, asIntOf, Sem.run_pure, Result.andThen_ok, run_underlying (elemOf_array hel), Instr.sureAddr]
    rw [if_pos ⟨h0, hn⟩]
    simp only [Sem.run_bind, run_sizeOf_tk hk, Result.andThen_ok, Sem.run_pure, add_add]
  ·rename_i b off he
   obtain ⟨m, e, k, hel, hk, h0, hn, hK⟩ := h
   rw [he] at hx
   generalize η x = u at hx ⊢
   cases hx
   refine .same (v := .pointer (some ⟨b, off + n.toNat * k.size, none⟩)) ?_ (.v _) hK
   simp only [Instr.indexAt, Sem.run_bind, asIntOf, Sem.run_pure, Result.andThen_ok, run_underlying (elemOf_array hel), Instr.sureAddr]
   rw [if_pos ⟨h0, hn⟩]
   simp only [Sem.run_bind, run_sizeOf_tk hk, Result.andThen_ok, Sem.run_pure, plain_add]
  ·exact h.elim
 ·exact h.elim
theorem bnd_run (hev : ∀ x, Rep w σ (ev x) (η x)) {d : Int} {o : Option Operand} {l : Int} (h : bnd ev d o = some l) :
  (o = none ∧ l = d) ∨ ∃ x k, o = some x ∧ η x = .int k l := by
 cases o with
 | none => exact .inl ⟨rfl, by simpa [bnd] using h.symm⟩
 | some x =>
  refine .inr ⟨x, ?_⟩
  have hx := hev x
  simp only [bnd] at h
  split at h
  ·rename_i k n he
   rw [he] at hx
   generalize η x = u at hx ⊢
   cases hx
   cases h
   exact ⟨k, rfl, rfl⟩
  ·cases h
theorem sliceBound_ok {k : IntKind} {l : Int} {y : Nat} (c : BoundsCode) (h0 : 0 ≤ l) (h : l ≤ y) : (Instr.sliceBound (.int k l) y c).run P w = .ok l.toNat w := by
 simp only [Instr.sliceBound, asIntOf, Sem.run_bind, Sem.run_pure, Result.andThen_ok]
 rw [if_pos ⟨h0, h⟩]
 rfl
theorem sliceBounds_ok (hev : ∀ x, Rep w σ (ev x) (η x)) (isS : Bool) (len cap : Nat) (hlc : len ≤ cap) {lo hi mx : Option Operand} {l h : Int} (hl : bnd ev 0 lo = some l) (hh : bnd ev len hi = some h) (h0 : 0 ≤ l) (hlh : l ≤ h)
  (hm : (mx = none ∧ h ≤ len) ∨ (hi ≠ none ∧ ∃ m, mx ≠ none ∧ bnd ev 0 mx = some m ∧ h ≤ m ∧ m ≤ len)) :
  ∃ m : Nat, (mx = none → m = cap) ∧ (∀ m', mx ≠ none → bnd ev 0 mx = some m' → m = m'.toNat) ∧ h.toNat ≤ m ∧ (Instr.sliceBounds isS len cap (lo.map η) (hi.map η) (mx.map η)).run P w = .ok (l.toNat, h.toNat, m) w := by
 rcases hm with ⟨rfl, hhl⟩ | ⟨hhi, m, hmx, hm, hhm, hml⟩
 ·refine ⟨cap, fun _ => rfl, fun m' hne => absurd rfl hne, by omega, ?_⟩
  rcases bnd_run hev hl with ⟨rfl, rfl⟩ | ⟨x, kx, rfl, ex⟩ <;> rcases bnd_run hev hh with ⟨rfl, rfl⟩ | ⟨y, ky, rfl, ey⟩
  ·simp [Instr.sliceBounds]
  ·have := sliceBound_ok (P := P) (w := w) (k := ky) (y := cap) (if isS then BoundsCode.sliceAcap else .sliceAlen) (by omega : (0 : Int) ≤ h) (by omega)
   simp [Instr.sliceBounds, ey, this]
  ·have := sliceBound_ok (P := P) (w := w) (k := kx) (y := len) BoundsCode.sliceB h0 (by omega)
   simp [Instr.sliceBounds, ex, this]
  ·have h1 := sliceBound_ok (P := P) (w := w) (k := ky) (y := cap) (if isS then BoundsCode.sliceAcap else .sliceAlen) (by omega : (0 : Int) ≤ h) (by omega)
   have h2 := sliceBound_ok (P := P) (w := w) (k := kx) (y := h.toNat) BoundsCode.sliceB h0 (by omega)
   simp [Instr.sliceBounds, ex, ey, h1, h2]
 ·refine ⟨m.toNat, fun e => absurd e hmx, fun m' _ e => by rw [hm] at e; cases e; rfl, by omega, ?_⟩
  rcases bnd_run hev hm with ⟨rfl, rfl⟩ | ⟨z, kz, rfl, ez⟩
  ·exact absurd rfl hmx
  rcases bnd_run hev hh with ⟨rfl, rfl⟩ | ⟨y, ky, rfl, ey⟩
  ·exact absurd rfl hhi
  have hz := sliceBound_ok (P := P) (w := w) (k := kz) (y := cap) (if isS then BoundsCode.slice3Acap else .slice3Alen) (by omega : (0 : Int) ≤ m) (by omega)
  have hy := sliceBound_ok (P := P) (w := w) (k := ky) (y := m.toNat) BoundsCode.slice3B (by omega : (0 : Int) ≤ h) (by omega)
  rcases bnd_run hev hl with ⟨rfl, rfl⟩ | ⟨x, kx, rfl, ex⟩
  ·simp [Instr.sliceBounds, ez, ey, hz, hy]
  ·have hx := sliceBound_ok (P := P) (w := w) (k := kx) (y := h.toNat) BoundsCode.slice3C h0 (by omega)
   simp [Instr.sliceBounds, ez, ey, ex, hz, hy, hx]
theorem RunAt.sub {a : Addr} {vs : List Value} (h : RunAt w σ a vs) (k n : Nat) : RunAt w σ (a.add k) ((vs.drop k).take n) := fun hne => by
 have hv : vs ≠ [] := fun e => by subst e; simp at hne
 obtain ⟨h1, h2, h3⟩ := h hv
 refine ⟨by rw [add_block]; exact h1, by rw [add_block]; exact h2, fun i v hi => ?_⟩
 rw [add_add]
 rw [List.getElem?_take] at hi
 split at hi
 ·rw [List.getElem?_drop] at hi; exact h3 _ _ hi
 ·cases hi
theorem slice_ok {t : TypeId} {x : Operand} {lo hi mx : Option Operand} (hev : ∀ x, Rep w σ (ev x) (η x)) (h : dop P Lf pu ev (.slice t x lo hi mx) K) :
  DOk P w σ (Instr.sliceAt t (η x) (lo.map η) (hi.map η) (mx.map η)) K := by
 have hx := hev x
 simp only [dop] at h
 split at h
 ·rename_i s he
  obtain ⟨hu, rfl, l, h', hl, hh, h0, hlh, hhs, hK⟩ := h
  rw [he] at hx
  generalize η x = u at hx ⊢
  cases hx
  obtain ⟨m, hm, _, _, hb⟩ := sliceBounds_ok (P := P) hev false s.size s.size (Nat.le_refl _) hl hh h0 hlh (.inl ⟨rfl, hhs⟩)
  refine .same (v := .string (s.extract l.toNat h'.toNat)) ?_ (.v _) hK
  simp only [Instr.sliceAt, Instr.slice, Sem.run_bind, run_underlying hu, Result.andThen_ok, Option.map_none, Option.isSome_none, Bool.false_eq_true, if_false, Sem.run_pure]
  simp only [Option.map_none] at hb
  simp only [hb, Result.andThen_ok]
 ·rename_i cs n he
  obtain ⟨e, k, l, h', hel, hk, hl, hh, h0, hlh, hhn, hK⟩ := h
  rw [he] at hx
  generalize η x = u at hx ⊢
  cases mx with
  | none =>
   dsimp only at hK
   cases hx with
   | slnil =>
    obtain ⟨m, hm, _, _, hb⟩ := sliceBounds_ok (P := P) (mx := none) hev true 0 0 (Nat.le_refl _) hl hh h0 hlh (.inl ⟨rfl, hhn⟩)
    have hl0 : l.toNat = 0 := by omega
    have hh0 : h'.toNat = 0 := by omega
    refine .same (v := .slice none 0 0) ?_ ?_ hK
    ·simp only [Instr.sliceAt, Instr.slice, Sem.run_bind, run_underlying (elemOf_slice hel), Result.andThen_ok, hb, run_sizeOf_tk hk, Sem.run_pure, hm rfl, hl0, hh0]
     rfl
    ·simpa [hl0, hh0] using Rep.slnil
   | sl hc hrun hcap =>
    rename_i vs a cap
    obtain ⟨m, hm, _, _, hb⟩ := sliceBounds_ok (P := P) (mx := none) hev true n cap hcap hl hh h0 hlh (.inl ⟨rfl, hhn⟩)
    obtain rfl := hm rfl
    refine .same (v := .slice (some (if m = l.toNat then a else a.add (l.toNat * k.size))) (h'.toNat - l.toNat) (m - l.toNat)) ?_ ?_ hK
    ·simp only [Instr.sliceAt, Instr.slice, Sem.run_bind, run_underlying (elemOf_slice hel), Result.andThen_ok, hb, run_sizeOf_tk hk, Sem.run_pure]
     by_cases e : m = l.toNat <;> simp [e]
    ·refine .sl ((hc.drop _).take _) ?_ (by omega)
     by_cases e : m = l.toNat
     ·intro hne
      exfalso
      have : h'.toNat - l.toNat = 0 := by omega
      rw [this] at hne
      simp at hne
     ·simp only [e, if_false]
      exact hrun.sub _ _
  | some mo =>
   obtain ⟨hhi, m', hm', hhm, hmn, hKe, hKs⟩ := hK
   cases hx with
   | slnil =>
    obtain ⟨m, _, hm, hle, hb⟩ := sliceBounds_ok (P := P) (mx := some mo) hev true 0 0 (Nat.le_refl _) hl hh h0 hlh (.inr ⟨hhi, m', by simp, hm', hhm, hmn⟩)
    have hmz := hm m' (by simp) hm'
    have hl0 : l.toNat = 0 := by omega
    have hh0 : h'.toNat = 0 := by omega
    have hm0 : m = 0 := by omega
    subst hm0
    refine .same (v := .slice none 0 0) ?_ (.e0 none) (hKe (by omega))
    simp only [Instr.sliceAt, Instr.slice, Sem.run_bind, run_underlying (elemOf_slice hel), Result.andThen_ok, hb, run_sizeOf_tk hk, Sem.run_pure, hl0, hh0]
    rfl
   | sl hc hrun hcap =>
    rename_i vs a cap
    obtain ⟨m, _, hm, hle, hb⟩ := sliceBounds_ok (P := P) (mx := some mo) hev true n cap hcap hl hh h0 hlh (.inr ⟨hhi, m', by simp, hm', hhm, hmn⟩)
    have hmz := hm m' (by simp) hm'
    have hrun' : (Instr.sliceAt t (.slice (some a) n cap) (lo.map η) (hi.map η) ((some mo).map η)).run P w = .ok (.slice (some (if m = l.toNat then a else a.add (l.toNat * k.size))) (h'.toNat - l.toNat) (m - l.toNat)) w := by
     simp only [Instr.sliceAt, Instr.slice, Sem.run_bind, run_underlying (elemOf_slice hel), Result.andThen_ok, hb, run_sizeOf_tk hk, Sem.run_pure]
     by_cases e : m = l.toNat <;> simp [e]
    by_cases e : m' = l
    ·subst e
     have e1 : h'.toNat - m'.toNat = 0 := by omega
     have e2 : m - m'.toNat = 0 := by omega
     rw [e1, e2] at hrun'
     exact .same hrun' (.e0 _) (hKe rfl)
    ·refine .same hrun' ?_ (hKs e)
     refine .sl ((hc.drop _).take _) ?_ (by omega)
     have : ¬ m = l.toNat := by omega
     simp only [this, if_false]
     exact hrun.sub _ _
 ·rename_i b s off n he
  obtain ⟨e, k, l, h', hel, hk, hks, hl, hh, h0, hlh, hhn, hK⟩ := h
  rw [he] at hx
  generalize η x = u at hx ⊢
  cases hx with
  | own hb' hcap ha hrow =>
   rename_i a cap
   cases mx with
   | none =>
    dsimp only at hK
    obtain ⟨m, hm, _, _, hb⟩ := sliceBounds_ok (P := P) (mx := none) hev true n cap hcap hl hh h0 hlh (.inl ⟨rfl, hhn⟩)
    obtain rfl := hm rfl
    refine .same (v := .slice (some (if m = l.toNat then a else a.add (l.toNat * k.size))) (h'.toNat - l.toNat) (m - l.toNat)) ?_ ?_ hK
    ·simp only [Instr.sliceAt, Instr.slice, Sem.run_bind, run_underlying (elemOf_slice hel), Result.andThen_ok, hb, run_sizeOf_tk hk, Sem.run_pure]
     by_cases e : m = l.toNat <;> simp [e]
    ·refine .own hb' (by omega) (fun hne => ?_) (fun cs s' c hs => ?_)
     ·have h1 : ¬ m = l.toNat := by omega
      simp only [h1, if_false]
      rw [ha (by omega), plain_add, hks, Nat.add_mul]
     ·obtain ⟨h1, h2⟩ := hrow cs s' c hs
      exact ⟨h1, by omega⟩
   | some mo =>
    obtain ⟨hhi, hm', rfl, hK⟩ := hK
    obtain ⟨m, _, hm, hle, hb⟩ := sliceBounds_ok (P := P) (mx := some mo) hev true n cap hcap hl hh h0 hlh (.inr ⟨hhi, _, by simp, hm', Int.le_refl _, hhn⟩)
    have hmz := hm _ (by simp) hm'
    subst hmz
    have hrun' : (Instr.sliceAt t (.slice (some a) n cap) (lo.map η) (hi.map η) ((some mo).map η)).run P w = .ok (.slice (some a) 0 0) w := by
     simp only [Instr.sliceAt, Instr.slice, Sem.run_bind, run_underlying (elemOf_slice hel), Result.andThen_ok, hb, run_sizeOf_tk hk, Sem.run_pure]
     simp
    exact .same hrun' (.e0 _) hK
 ·rename_i he
  obtain ⟨e, k, hel, hk, hl, hh, hm, hK⟩ := h
  rw [he] at hx
  generalize η x = u at hx ⊢
  cases hx
  have hm' : (mx = none ∧ (0 : Int) ≤ ((0 : Nat) : Int)) ∨ (hi ≠ none ∧ ∃ m, mx ≠ none ∧ bnd ev 0 mx = some m ∧ (0 : Int) ≤ m ∧ m ≤ ((0 : Nat) : Int)) := by
   rcases hm with hm | ⟨h1, h2⟩
   ·exact .inl ⟨hm, by omega⟩
   ·by_cases hmx : mx = none
    ·exact .inl ⟨hmx, by omega⟩
    ·exact .inr ⟨h1, 0, hmx, h2, by omega, by omega⟩
  obtain ⟨m, h1, h2, hle, hb⟩ := sliceBounds_ok (P := P) (mx := mx) hev true 0 0 (Nat.le_refl _) hl hh (by omega) (by omega) hm'
  refine .same (v := .slice none 0 0) ?_ (.v _) hK
  have hm0 : m = 0 := by
   by_cases hmx : mx = none
   ·exact h1 hmx
   ·rcases hm with hm | ⟨_, h3⟩
    ·exact absurd hm hmx
    ·simpa using h2 0 hmx h3
  subst hm0
  simp only [Instr.sliceAt, Instr.slice, Sem.run_bind, run_underlying (elemOf_slice hel), Result.andThen_ok, hb, run_sizeOf_tk hk, Sem.run_pure]
  rfl
 ·rename_i he
  obtain ⟨e, k, hel, hk, hl, hh, hm, hK⟩ := h
  rw [he] at hx
  generalize η x = u at hx ⊢
  cases hx
  rename_i a
  have hm' : (mx = none ∧ (0 : Int) ≤ ((0 : Nat) : Int)) ∨ (hi ≠ none ∧ ∃ m, mx ≠ none ∧ bnd ev 0 mx = some m ∧ (0 : Int) ≤ m ∧ m ≤ ((0 : Nat) : Int)) := by
   rcases hm with hm | ⟨h1, h2⟩
   ·exact .inl ⟨hm, by omega⟩
   ·by_cases hmx : mx = none
    ·exact .inl ⟨hmx, by omega⟩
    ·exact .inr ⟨h1, 0, hmx, h2, by omega, by omega⟩
  obtain ⟨m, h1, h2, hle, hb⟩ := sliceBounds_ok (P := P) (mx := mx) hev true 0 0 (Nat.le_refl _) hl hh (by omega) (by omega) hm'
  refine .same (v := .slice a 0 0) ?_ (.e0 _) hK
  have hm0 : m = 0 := by
   by_cases hmx : mx = none
   ·exact h1 hmx
   ·rcases hm with hm | ⟨_, h3⟩
    ·exact absurd hm hmx
    ·simpa using h2 0 hmx h3
  subst hm0
  simp only [Instr.sliceAt, Instr.slice, Sem.run_bind, run_underlying (elemOf_slice hel), Result.andThen_ok, hb, run_sizeOf_tk hk, Sem.run_pure]
  simp
 ·exact h.elim
def NOk (P : Program) (w : World) (σ : Sig) (s : Sem Next) (K : AV → Prop) : Prop :=
 ∃ v w' r, s.run P w = .ok (.value v) w' ∧ Calm w w' ∧ Rep w' σ r v ∧ K r
theorem DOk.next {s : Sem Value} (h : DOk P w σ s K) : NOk P w σ (do pure (.value (← s))) K := by
 obtain ⟨v, w', r, h1, h2, h3, h4⟩ := h
 exact ⟨v, w', r, by simp only [Sem.run_bind, h1, Result.andThen_ok, Sem.run_pure], h2, h3, h4⟩
theorem NOk.same {s : Sem Next} {v : Value} {r : AV} (h : s.run P w = .ok (.value v) w) (hr : Rep w σ r v) (hK : K r) : NOk P w σ s K :=
 ⟨v, w, r, h, Calm.refl w, hr, hK⟩
theorem builtin_ok {o : Oper} {c : Call} (hev : ∀ x, Rep w σ (ev x) (η x)) (h : dop P Lf pu ev (.call c) K) : NOk P w σ (do let d ← resolve η c o.type; invoke d.target d.args) K := by
 obtain ⟨callee, args, argTypes⟩ := c
 simp only [dop] at h
 have hargs : ∀ l, args.toList = l → args.map η = (l.map η).toArray := fun l e => by subst e; apply Array.ext'; simp
 split at h
 ·rename_i _ _ _ x t ts h2 h3
  have ea := hargs _ h2
  have hx := hev x
  have goal : ∀ (u : Value) (n : Nat), η x = u → (Builtin.len_ argTypes o.type #[u]).run P w = .ok (.int .i64 n) w → (do let d ← resolve η ⟨.builtin .len, args, argTypes⟩ o.type; invoke d.target d.args : Sem Next).run P w = .ok (.value (.int .i64 n)) w := by
   intro u n hu hrun
   simp only [resolve, Sem.run_bind, Sem.run_pure, Result.andThen_ok, invoke, builtin, ea, List.map_cons, List.map_nil, hu, hrun]
  have h3' : argTypes[0]? = some t := by rw [← Array.getElem?_toList, h3]; rfl
  split at h <;> (try exact h.elim)
  ·rename_i cs n he
   obtain ⟨⟨e, hu⟩, hK⟩ := h
   rw [he] at hx
   generalize hη : η x = u at hx
   cases hx with
   | slnil => exact .same (goal _ 0 hη (by simp [Builtin.len_, h3', run_underlying hu, goInt])) (.v _) hK
   | sl hc hrun hcap => exact .same (goal _ n hη (by simp [Builtin.len_, h3', run_underlying hu, goInt])) (.v _) hK
  ·rename_i b s off n he
   obtain ⟨⟨e, hu⟩, hK⟩ := h
   rw [he] at hx
   generalize hη : η x = u at hx
   cases hx
   exact .same (goal _ n hη (by simp [Builtin.len_, h3', run_underlying hu, goInt])) (.v _) hK
  ·rename_i he
   obtain ⟨⟨e, hu⟩, hK⟩ := h
   rw [he] at hx
   generalize hη : η x = u at hx
   cases hx
   exact .same (goal _ 0 hη (by simp [Builtin.len_, h3', run_underlying hu, goInt])) (.v _) hK
  ·rename_i a n c he
   obtain ⟨⟨e, hu⟩, hK⟩ := h
   rw [he] at hx
   generalize hη : η x = u at hx
   cases hx
   exact .same (goal _ n hη (by simp [Builtin.len_, h3', run_underlying hu, goInt])) (.v _) hK
  ·rename_i he
   obtain ⟨⟨e, hu⟩, hK⟩ := h
   rw [he] at hx
   generalize hη : η x = u at hx
   cases hx
   exact .same (goal _ 0 hη (by simp [Builtin.len_, h3', run_underlying hu, goInt])) (.v _) hK
  ·rename_i s he
   obtain ⟨hu, hK⟩ := h
   rw [he] at hx
   generalize hη : η x = u at hx
   cases hx
   exact .same (goal _ s.size hη (by simp [Builtin.len_, h3', run_underlying hu, goInt])) (.v _) hK
 ·rename_i _ _ _ x t ts h2 h3
  have ea := hargs _ h2
  have hx := hev x
  have h3' : argTypes[0]? = some t := by rw [← Array.getElem?_toList, h3]; rfl
  have goal : ∀ (u : Value) (n : Nat), η x = u → (Builtin.cap_ argTypes o.type #[u]).run P w = .ok (.int .i64 n) w → (do let d ← resolve η ⟨.builtin .cap, args, argTypes⟩ o.type; invoke d.target d.args : Sem Next).run P w = .ok (.value (.int .i64 n)) w := by
   intro u n hu hrun
   simp only [resolve, Sem.run_bind, Sem.run_pure, Result.andThen_ok, invoke, builtin, ea, List.map_cons, List.map_nil, hu, hrun]
  split at h <;> (try exact h.elim)
  ·rename_i he
   obtain ⟨⟨e, hu⟩, hK⟩ := h
   rw [he] at hx
   generalize hη : η x = u at hx
   cases hx
   exact .same (goal _ 0 hη (by simp [Builtin.cap_, h3', run_underlying hu, goInt])) (.v _) hK
  ·rename_i he
   obtain ⟨⟨e, hu⟩, hK⟩ := h
   rw [he] at hx
   generalize hη : η x = u at hx
   cases hx
   exact .same (goal _ 0 hη (by simp [Builtin.cap_, h3', run_underlying hu, goInt])) (.v _) hK
 ·rename_i _ _ _ x y h2
  have ea := hargs _ h2
  have hx := hev x
  have hy := hev y
  split at h
  ·rename_i k a k' b he hf
   rw [he] at hx; rw [hf] at hy
   generalize hη : η x = u at hx
   generalize hη' : η y = v at hy
   cases hx; cases hy
   refine .same ?_ (.v _) h
   simp [resolve, invoke, builtin, ea, hη, hη', Builtin.min_, Builtin.min2]
  ·exact h.elim
 ·rename_i _ _ _ x y h2
  have ea := hargs _ h2
  have hx := hev x
  have hy := hev y
  split at h
  ·rename_i k a k' b he hf
   rw [he] at hx; rw [hf] at hy
   generalize hη : η x = u at hx
   generalize hη' : η y = v at hy
   cases hx; cases hy
   refine .same ?_ (.v _) h
   simp [resolve, invoke, builtin, ea, hη, hη', Builtin.max_, Builtin.max2]
  ·exact h.elim
 ·rename_i _ _ _ x h2
  have ea := hargs _ h2
  have hx := hev x
  split at h
  ·rename_i a n c he
   rw [he] at hx
   generalize hη : η x = u at hx
   cases hx
   refine .same ?_ (.v _) h.2
   have hc := h.1
   have hb : ∀ ty, (Builtin.unsafeSliceData_ argTypes ty #[.slice (some a) n c]).run P w = .ok (.pointer (some a)) w := fun ty => by
    obtain ⟨k, rfl⟩ : ∃ k, c = k + 1 := ⟨c - 1, by omega⟩
    rfl
   simp only [resolve, Sem.run_bind, Sem.run_pure, Result.andThen_ok, invoke, builtin, ea, List.map_cons, List.map_nil, hη, hb]
  ·exact h.elim
 ·exact h.elim
theorem dop_ok {o : Oper} {op : Op} (ho : o.op = op) (hf : σ w.heap.size = none) (hev : ∀ x, Rep w σ (ev x) (η x)) (h : dop P Lf pu ev op K) : NOk P w σ (execOp η o) K := by
 unfold execOp
 rw [ho]
 cases op <;> (try exact h.elim) <;> dsimp only
 case move x => exact .same (Sem.run_pure ..) (hev x) h
 case assign x => exact .same (Sem.run_pure ..) (hev x) h
 case pick c a b =>
  have hc := hev c
  simp only [dop] at h
  split at h
  ·rename_i t he
   rw [he] at hc
   generalize hη : η c = u at hc
   cases hc
   cases t
   ·exact .same (v := η b) (by simp [hη, asBool]) (hev b) (h.2 rfl)
   ·exact .same (v := η a) (by simp [hη, asBool]) (hev a) (h.1 rfl)
  ·exact h.elim
 case nilCheck x =>
  have hx := hev x
  simp only [dop] at h
  split at h
  ·rename_i a he
   rw [he] at hx
   generalize hη : η x = u at hx ⊢
   cases hx
   exact .same rfl (.v _) h
  ·rename_i cs off he
   rw [he] at hx
   generalize hη : η x = u at hx ⊢
   cases hx with
   | pp hc hr => exact .same rfl (.pp hc hr) h
  ·rename_i f a b he
   rw [he] at hx
   generalize hη : η x = u at hx ⊢
   cases hx with
   | fn h1 h2 => exact .same rfl (.fn h1 h2) h
  ·exact h.elim
 case binOp op t x y yt =>
  obtain ⟨z, r, h1, h2, h3⟩ := binA_ok (xo := x) (yo := y) (hev x) (hev y) h
  refine .same (v := z) ?_ h2 h3
  simp only [Sem.run_bind] at h1 ⊢
  rw [h1]
  rfl
 case unOp op t x =>
  have hx := hev x
  cases op <;> (try exact h.elim) <;> (simp only [dop] at h; split at h <;> (try exact h.elim)) <;>
   (rename_i he; rw [he] at hx; generalize hη : η x = u at hx ⊢; cases hx; refine .same ?_ (.v _) h; simp [Op.unary, Op.intArith])
 case convert src dst x =>
  have hx := hev x
  simp only [dop] at h
  split at h
  ·rename_i k n he
   obtain ⟨hs, h⟩ := h
   obtain ⟨d, hd⟩ := Option.isSome_iff_exists.1 hs
   rw [he] at hx
   generalize hη : η x = u at hx ⊢
   cases hx
   split at h
   ·rename_i k' hk'
    refine .same ?_ (.v _) h
    simp [convert, run_underlying hd, run_underlying hk', Conv.intToInt]
   ·rename_i hk'
    refine .same ?_ (.v _) h
    simp [convert, run_underlying hd, run_underlying hk', Conv.intToString]
   ·exact h.elim
  ·rename_i s he
   obtain ⟨hs, hd', h⟩ := h
   obtain ⟨d, hd⟩ := Option.isSome_iff_exists.1 hs
   rw [he] at hx
   generalize hη : η x = u at hx ⊢
   cases hx
   refine .same ?_ (.v _) h
   simp [convert, run_underlying hd, run_underlying hd']
  ·exact h.elim
 case makeFunc fn first captured =>
  refine .same (v := .func fn (first.map η) (captured.map η)) (by simp [Instr.makeFunc]) ?_ h
  have e1 : first.map η = (first.toList.map η).toArray := by apply Array.ext'; simp
  have e2 : captured.map η = (captured.toList.map η).toArray := by apply Array.ext'; simp
  rw [e1, e2]
  exact Rep.fn (f := fn) (reps_map hev first.toList) (reps_map hev captured.toList)
 case build t parts => exact (build_ok hev h).next
 case buildSlice t n parts => exact (buildSlice_ok hf hev h).next
 case box t x => exact (box_ok hf hev h).next
 case fieldAddr t x f => exact (fieldAddr_ok hev h).next
 case field t x f => exact (field_ok hev h).next
 case index t x i => exact (index_ok hev h).next
 case indexAddr t x i => exact (indexAddr_ok hev h).next
 case slice t x lo hi mx => exact (slice_ok hev h).next
 case extract x i =>
  have hx := hev x
  simp only [dop] at h
  split at h
  ·rename_i cs he
   obtain ⟨r, hr, hK⟩ := h
   rw [he] at hx
   generalize hη : η x = u at hx ⊢
   cases hx with
   | tup hc =>
    obtain ⟨v, hv, hrep⟩ := hc.get _ _ hr
    refine .same (v := v) ?_ hrep hK
    simp [Instr.extract, hv]
  ·exact h.elim
 case call c => exact builtin_ok hev h
end
end Go.AL
