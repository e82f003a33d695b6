import Derived.Test.YtjimmpldofoimaaGreatDoorAlDopOk
set_option linter.unusedVariables false
set_option linter.unusedSimpArgs false
namespace Go.AL
def ers (σ : Sig) (b : Nat) : Sig := fun i => if i = b then none else σ i
theorem ers_same (σ : Sig) (b : Nat) : ers σ b b = none := by simp [ers]
theorem ers_ne (σ : Sig) (b i : Nat) (h : i ≠ b) : ers σ b i = σ i := by simp [ers, h]
theorem Drop.ers (σ : Sig) (b : Nat) : Drop σ (ers σ b) := fun i => by by_cases h : i = b <;> simp [AL.ers, h]
theorem upd_ers (σ : Sig) (b : Nat) (x : Blk) : upd (ers σ b) b x = upd σ b x := by funext i; simp only [upd, ers]; split <;> rfl
def SemOk (P : Program) (Γ : Glob) (σ : Sig) (args : List AV) (f : List Value → Sem Value) (K : AV → Sig → Prop) : Prop :=
 ∀ w vs, Rel Γ w σ → Reps w σ args vs → ∃ v w' r σ', (f vs).run P w = .ok v w' ∧ Rep w' σ' r v ∧ Rel Γ w' σ' ∧ Ext w σ w' σ' ∧ K r σ'
def AV.one : AV → Bool
 | .v x => x.oneCell'
 | .agg _ | .tup _ | .any => false
 | _ => true
theorem Rep.one {w : World} {σ : Sig} {a : AV} {v : Value} (h : Rep w σ a v) (ha : a.one = true) : v.oneCell' = true := by
 cases h <;> first
  | exact ha
  | rfl
  | (simp [AV.one] at ha; done)
theorem Reps.ones {w : World} {σ : Sig} {cs : List AV} {vs : List Value} (h : Reps w σ cs vs) (ha : cs.all AV.one = true) : ∀ v ∈ vs, v.oneCell' = true := by
 induction cs generalizing vs with
 | nil => cases h; simp
 | cons c cs ih =>
  cases h with
  | cons h0 h1 =>
   simp only [List.all_cons, Bool.and_eq_true] at ha
   intro v hv
   rcases List.mem_cons.1 hv with rfl | hv
   ·exact h0.one ha.1
   ·exact ih h1 ha.2 v hv
def Src (σ : Sig) (sz : Nat) (x : AV) (xs : List AV) (m : Nat) : Prop :=
 match x with
 | .sl cs n => xs = cs ∧ m = n ∧ cs.length = n * sz
 | .own b s off n => s = sz ∧ m = n ∧ ∃ cs c, σ b = some (.row cs s c) ∧ (off + n) * s ≤ cs.length ∧ xs = (cs.drop (off * s)).take (n * s)
 | .v (.slice none 0 0) => xs = [] ∧ m = 0
 | .e0 => xs = [] ∧ m = 0
 | .v (.string s) => sz = 1 ∧ xs = s.data.toList.map (fun b => AV.v (.int .u8 b.toNat)) ∧ m = s.size
 | _ => False
section
variable {P : Program} {Γ : Glob} {σ : Sig} {w : World}
theorem cells_of_row {vs rest : List Value} {el : TypeId} {b : Nat} (h : w.heap[b]? = some (.cells (vs ++ rest).toArray el (0, 0))) (k n : Nat) (hk : k + n ≤ vs.length) :
  ∀ j v, ((vs.drop k).take n)[j]? = some v → w.cell? ((⟨b, k, none⟩ : Addr).add j) = some v := fun j v hj => by
 rw [plain_add, cell?_row h]
 rw [List.getElem?_take] at hj
 split at hj
 ·rw [List.getElem?_drop] at hj
  rw [List.getElem?_append_left (by omega)]
  exact hj
 ·cases hj
abbrev atD (w : World) (d : Nat) : World := { w with drawn := d }
theorem src_ok {sz : Nat} {x : AV} {xs : List AV} {m : Nat} {u : Value} (r : Rel Γ w σ) (h : Src σ sz x xs m) (hx : Rep w σ x u) :
  (Builtin.lenOf u).run P w = .ok m w ∧ ∃ us, (∀ d, (Builtin.firstCells sz m u).run P (atD w d) = .ok us.toArray (atD w d)) ∧ Reps w σ xs us ∧ us.length = m * sz := by
 unfold Src at h
 split at h
 ·rename_i cs n
  obtain ⟨rfl, rfl, hl⟩ := h
  cases hx with
  | slnil => exact ⟨rfl, [], fun d => rfl, .nil, by simp⟩
  | sl hc hrun hcap =>
   rename_i vs a cap
   have hlen := hc.length
   have hload : ∀ d, (loadCells a (m * sz)).run P (atD w d) = .ok vs.toArray (atD w d) := fun d => by
    rw [← hl, hlen]
    refine run_loadCells_list (atD w d) a vs fun j v hj => ?_
    have hne : vs ≠ [] := by intro e; subst e; simp at hj
    exact (hrun hne).2.2 j v hj
   exact ⟨rfl, vs, fun d => by simp only [Builtin.firstCells, hload], hc, by omega⟩
 ·rename_i b s off n
  obtain ⟨rfl, rfl, cs, c, hb, hle, rfl⟩ := h
  cases hx with
  | own hbl hcap ha hrow =>
   rename_i a cap
   obtain ⟨_, vs, rest, el, h3, h4, h5⟩ := r.blk b _ hb
   have hlen := h4.length
   refine ⟨rfl, (vs.drop (off * s)).take (m * s), fun d => ?_, (h4.drop _).take _, ?_⟩
   ·rw [Nat.add_mul] at hle
    by_cases hc : cap = 0
    ·have hm : m = 0 := by omega
     subst hm
     simp [Builtin.firstCells, loadCells, loadCellsFrom]
    ·obtain rfl := ha hc
     have hl : ((vs.drop (off * s)).take (m * s)).length = m * s := by simp; omega
     have := run_loadCells_list (P := P) (atD w d) ⟨b, off * s, none⟩ ((vs.drop (off * s)).take (m * s)) (cells_of_row (w := w) h3 _ _ (by omega))
     rw [hl] at this
     simp only [Builtin.firstCells, this]
   ·rw [Nat.add_mul] at hle
    simp; omega
 ·obtain ⟨rfl, rfl⟩ := h
  cases hx
  exact ⟨rfl, [], fun d => rfl, .nil, by simp⟩
 ·obtain ⟨rfl, rfl⟩ := h
  cases hx with
  | e0 a => cases a <;> exact ⟨rfl, [], fun d => by simp [Builtin.firstCells, loadCells, loadCellsFrom], .nil, by simp⟩
 ·rename_i s
  obtain ⟨rfl, rfl, rfl⟩ := h
  cases hx
  refine ⟨rfl, s.data.toList.map fun b => .int .u8 b.toNat, fun d => ?_, ?_, by simp⟩
  ·simp only [Builtin.firstCells, Sem.run_pure]
   congr 1
   apply Array.ext'
   simp
  ·generalize s.data.toList = l
   induction l with
   | nil => exact .nil
   | cons b l ih => exact .cons (.v _) ih
 ·exact h.elim
structure AppT (P : Program) (t0 t1 : TypeId) (k : TK) (bytes : Nat) : Prop where
 slice : ∃ e i, P.underlying t0 = some (.slice e) ∧ tkOf P e = some k ∧ P.info? e = some i ∧ i.bytes = bytes
 src : ∃ d, P.underlying t1 = some d ∧ ∀ kk, d ≠ .int kk
 size : k.size ≠ 0
 zero : k.zero.length = k.size
 pos : 0 < bytes
theorem zeroCells_size (z : Array Value) (n : Nat) : (Builtin.zeroCells z n).size = n * z.size := by simp [Builtin.zeroCells]
theorem append_fits {t0 t1 ty : TypeId} {k : TK} {bytes : Nat} (hT : AppT P t0 t1 k bytes) {a : Option Addr} {m cap n : Nat} {u : Value} {us : List Value} (hlen : (Builtin.lenOf u).run P w = .ok n w)
  (hsrc : ∀ d, (Builtin.firstCells k.size n u).run P (atD w d) = .ok us.toArray (atD w d)) (h : m + n ≤ cap) {w' : World}
  (hst : (match a with | some a => storeCells (a.add (m * k.size)) us | none => pure () : Sem Unit).run P w = .ok () w') :
  (Builtin.append_ #[t0, t1] ty #[.slice a m cap, u]).run P w = .ok (.slice a (m + n) cap) w' := by
 obtain ⟨e, i, h1, h2, h3, h4⟩ := hT.slice
 obtain ⟨d, hd, hnd⟩ := hT.src
 have hz : (match d with | TypeDesc.int _ => true | _ => false) = false := by
  cases d <;> first | rfl | exact absurd rfl (hnd _)
 have hsrc' : (Builtin.firstCells k.size n u).run P w = .ok us.toArray w := hsrc w.drawn
 cases a with
 | none =>
  simp at hst
  subst hst
  simp [Builtin.append_, run_underlying h1, run_sizeOf_tk h2, run_underlying hd, hz, hlen, h, hsrc']
 | some a =>
  simp only at hst
  simp [Builtin.append_, run_underlying h1, run_sizeOf_tk h2, run_underlying hd, hz, hlen, h, hsrc', hst]
theorem append_grows {t0 t1 ty : TypeId} {k : TK} {bytes : Nat} (hT : AppT P t0 t1 k bytes) {a : Option Addr} {m cap n : Nat} {u : Value} {us old : List Value} (hlen : (Builtin.lenOf u).run P w = .ok n w)
  (hsrc : ∀ d, (Builtin.firstCells k.size n u).run P (atD w d) = .ok us.toArray (atD w d)) (hold : ∀ d, (Builtin.firstCells k.size m (.slice a m cap)).run P (atD w d) = .ok old.toArray (atD w d))
  (hsum : (m + n) * bytes ≤ 140737488355328) (h : cap < m + n) :
  ∃ d newCap rest el, m + n ≤ newCap ∧ rest.length = (newCap - (m + n)) * k.size ∧ (Builtin.append_ #[t0, t1] ty #[.slice a m cap, u]).run P w =
   .ok (.slice (some ⟨w.heap.size, 0, none⟩) (m + n) newCap) { atD w d with heap := w.heap.push (.cells (old ++ us ++ rest).toArray el (0, 0)) } := by
 obtain ⟨e, i, h1, h2, h3, h4⟩ := hT.slice
 obtain ⟨d, hd, hnd⟩ := hT.src
 have hz : (match d with | TypeDesc.int _ => true | _ => false) = false := by
  cases d <;> first | rfl | exact absurd rfl (hnd _)
 obtain ⟨z, hzr, hzz⟩ := run_zero_tk h2 w
 have hb0 : ¬ i.bytes = 0 := by have := hT.pos; omega
 have hfit : ¬ (281474976710656 < Builtin.nextslicecap (m + n) cap * i.bytes) := by
  have := growslice_fits (old := cap) (bytes := i.bytes) h (by rw [h4]; exact hsum)
  omega
 have hi : (typeInfo e).run P w = .ok i w := by simp [typeInfo, h3]
 have hid : ∀ d, (typeInfo e).run P (atD w d) = .ok i (atD w d) := fun d => by simp [typeInfo, h3]
 have hzd : ∀ d, (zeroValue e).run P (atD w d) = .ok z (atD w d) := fun d => by
  obtain ⟨i', d', z', hi', _, hz', hk'⟩ := tkOf_some h2
  simp [zeroValue, typeInfo, hi'] at hzr ⊢
  rw [hz'] at hzr ⊢
  simpa using hzr
 let q : Question := .appendCap (m + n) cap e
 refine ⟨w.drawn + 1, q.cut (w.tape w.drawn q), (Builtin.zeroCells z.cells (q.cut (w.tape w.drawn q) - (m + n))).toList, e, by simp [q, Question.cut], ?_, ?_⟩
 ·have : z.cells.size = k.size := by
   have := congrArg List.length hzz
   simp at this
   rw [← this, hT.zero]
  simp [zeroCells_size, this]
 ·have hn : ¬ m + n ≤ cap := by omega
  have hs := hsrc (w.drawn + 1)
  have ho := hold (w.drawn + 1)
  have hq : q.forced = false := rfl
  simp only [Builtin.append_, Sem.run_bind, run_underlying h1, Result.andThen_ok, run_sizeOf_tk h2, run_underlying hd, Sem.run_pure, hz, Bool.false_eq_true, if_false, hlen, Sem.run_ite, hn, hi, List.getElem?_toArray, List.getElem?_cons_zero, List.getElem?_cons_succ]
  have hid' : (typeInfo e).run P w.drew = .ok i w.drew := hid (w.drawn + 1)
  have hzd' : (zeroValue e).run P w.drew = .ok z w.drew := hzd (w.drawn + 1)
  have hs' : (Builtin.firstCells k.size n u).run P w.drew = .ok us.toArray w.drew := hs
  have ho' : (Builtin.firstCells k.size m (.slice a m cap)).run P w.drew = .ok old.toArray w.drew := ho
  simp [hb0, hfit, hi, hid', hs', ho', hzd', newRow, Question.forced, q]
  have ea : ∀ Z : Array Value, (old ++ (us ++ Z.toList)).toArray = old.toArray ++ (us.toArray ++ Z) := fun Z => by apply Array.ext'; simp
  rw [ea]
  rfl
theorem append_new {t0 t1 ty : TypeId} {k : TK} {bytes : Nat} (hT : AppT P t0 t1 k bytes) {s x : AV} (hs : s = .v (.slice none 0 0) ∨ s = .e0) {xs : List AV} {n : Nat} (hx : Src σ k.size x xs n) (hsum : n * bytes ≤ 140737488355328) {K : AV → Sig → Prop}
  (h0 : n = 0 → K s σ) (h1 : n ≠ 0 → ∀ b c, σ b = none → n ≤ c → K (.own b k.size 0 n) (upd σ b (some (.row xs k.size c)))) :
  SemOk P Γ σ [s, x] (fun vs => Builtin.append_ #[t0, t1] ty vs.toArray) K := by
 intro w vs r hv
 cases hv with | cons h_s hv => cases hv with | cons h_x hv => cases hv with | nil =>
 rename_i vs_ vx_
 have hshape : ∃ a, vs_ = .slice a 0 0 := by rcases hs with rfl | rfl <;> (cases h_s; exact ⟨_, rfl⟩)
 obtain ⟨a, rfl⟩ := hshape
 obtain ⟨hl, us, hus, hrep, hul⟩ := src_ok (P := P) r hx h_x
 by_cases hn : n = 0
 ·subst hn
  have hus0 : us = [] := List.eq_nil_of_length_eq_zero (by omega)
  subst hus0
  refine ⟨.slice a 0 0, w, s, σ, ?_, h_s, r, Ext.refl _ _, h0 rfl⟩
  exact append_fits (P := P) (w := w) (w' := w) hT (m := 0) (cap := 0) hl hus (Nat.le_refl _) (by cases a <;> rfl)
 ·have hold : ∀ d, (Builtin.firstCells k.size 0 (.slice a 0 0)).run P (atD w d) = .ok ([] : List Value).toArray (atD w d) := fun d => by
   cases a <;> simp [Builtin.firstCells, loadCells, loadCellsFrom]
  obtain ⟨d, newCap, rest, el, h2, h3, h4⟩ := append_grows (P := P) (w := w) (t0 := t0) (t1 := t1) (ty := ty) hT (m := 0) (cap := 0) hl hus hold (by simpa using hsum) (by omega)
  have rD : Rel Γ (atD w d) σ := r.of_heap rfl rfl rfl rfl
  have eD : Ext w σ (atD w d) σ := Ext.of_heap rfl rfl rfl rfl
  have hsz : (atD w d).heap.size = w.heap.size := rfl
  have eA := Ext.alloc (w := atD w d) (σ := σ) (.cells ([] ++ us ++ rest).toArray el (0, 0)) (.row xs k.size newCap) rD.fresh
  have hrow : BlkRep { atD w d with heap := (atD w d).heap.push (.cells ([] ++ us ++ rest).toArray el (0, 0)) } (upd σ w.heap.size (some (.row xs k.size newCap))) w.heap.size (.row xs k.size newCap) := by
   refine ⟨us, rest, el, by simp, (hrep.ext eD).ext eA, ?_⟩
   simp only [List.length_append, hul, h3]
   rw [← Nat.add_mul]
   congr 1
   omega
  have rA := rD.alloc (.cells ([] ++ us ++ rest).toArray el (0, 0)) (.row xs k.size newCap) hrow
  refine ⟨_, _, _, _, h4, ?_, rA, eD.trans eA, h1 hn w.heap.size newCap r.fresh (by omega)⟩
  simp only [Nat.zero_add] at h2 ⊢
  refine .own (by simp) h2 (fun _ => by simp) (fun cs s' c hc => ?_)
  rw [hsz, upd_same] at hc
  cases hc
  exact ⟨rfl, by omega⟩
theorem append_own {t0 t1 ty : TypeId} {k : TK} {bytes : Nat} (hT : AppT P t0 t1 k bytes) {b off m c : Nat} {cs : List AV} (hb : σ b = some (.row cs k.size c)) (hm : (off + m) * k.size ≤ cs.length) {x : AV} {xs : List AV} {n : Nat} (hx : Src σ k.size x xs n)
  (hone : xs.all AV.one = true) (hsum : (m + n) * bytes ≤ 140737488355328) {K : AV → Sig → Prop}
  (h : ∀ b' off' c' pre, pre.length = off' * k.size → (off = 0 → off' = 0) → (b' = b ∨ σ b' = none) → K (.own b' k.size off' (m + n)) (upd (ers σ b) b' (some (.row (pre ++ (cs.drop (off * k.size)).take (m * k.size) ++ xs) k.size c')))) :
  SemOk P Γ σ [.own b k.size off m, x] (fun vs => Builtin.append_ #[t0, t1] ty vs.toArray) K := by
 intro w vs r hv
 cases hv with | cons h_s hv => cases hv with | cons h_x hv => cases hv with | nil =>
 rename_i vs_ vx_
 obtain ⟨hl, us, hus, hrep, hul⟩ := src_ok (P := P) r hx h_x
 obtain ⟨hbl, vb, rest0, el0, g3, g4, g5⟩ := r.blk b _ hb
 have glen := g4.length
 have hcs : off * k.size + m * k.size ≤ cs.length := by rw [← Nat.add_mul]; exact hm
 cases h_s with
 | own hbw hcap ha hrow =>
  rename_i a cap
  obtain ⟨_, hcc⟩ := hrow cs k.size c hb
  by_cases hfit : m + n ≤ cap
  ·-- in place
   by_cases hc0 : cap = 0
   ·have hm0 : m = 0 := by omega
    have hn0 : n = 0 := by omega
    subst hm0; subst hn0
    have hus0 : us = [] := List.eq_nil_of_length_eq_zero (by omega)
    subst hus0
    have hxs : xs = [] := List.eq_nil_of_length_eq_zero hrep.length
    subst hxs
    have hpre : (cs.take (off * k.size)).length = off * k.size := by simp; omega
    have hK := h b off c (cs.take (off * k.size)) hpre (fun e => e) (.inl rfl)
    rw [upd_ers] at hK
    simp only [Nat.zero_mul, List.take_zero, List.append_nil, Nat.add_zero] at hK
    have eW : Ext w σ w (upd σ b (some (.row (cs.take (off * k.size)) k.size c))) := Ext.write ⟨rfl, fun _ _ => rfl, rfl, rfl, rfl⟩ ⟨_, hb, fun cs' s' c' e => by cases e; exact ⟨_, rfl⟩⟩
    have rW : Rel Γ w (upd σ b (some (.row (cs.take (off * k.size)) k.size c))) := r.write ⟨rfl, fun _ _ => rfl, rfl, rfl, rfl⟩ ⟨_, hb, fun cs' s' c' e => by cases e; exact ⟨_, rfl⟩⟩
     ⟨vb.take (off * k.size), vb.drop (off * k.size) ++ rest0, el0, by rw [← List.append_assoc, List.take_append_drop]; exact g3, (g4.take _).ext eW, by rw [← List.append_assoc, List.take_append_drop]; exact g5⟩
    refine ⟨.slice (some a) 0 cap, w, _, _, append_fits (P := P) (w := w) (w' := w) hT hl hus hfit rfl, ?_, rW, eW, hK⟩
    refine .own hbw (by omega) ha (fun cs' s' c' e => ?_)
    rw [upd_same] at e
    cases e
    exact ⟨rfl, hcc⟩
   ·obtain rfl := ha hc0
    have hones := hrep.ones hone
    have hfull : off * k.size + m * k.size + us.length ≤ (vb ++ rest0).length := by
     rw [g5, hul, ← hcc, ← Nat.add_mul, ← Nat.add_mul]
     exact Nat.mul_le_mul_right _ (by omega)
    have hst := run_storeCells_at P b (off * k.size + m * k.size) el0 us 0 (vb ++ rest0).toArray w g3 (by simpa using hfull) hones
    simp only [Nat.add_zero] at hst
    have hst' : (storeCells ((⟨b, off * k.size, none⟩ : Addr).add (m * k.size)) us).run P w = .ok () (w.setRow b ((vb ++ rest0).take (off * k.size + m * k.size) ++ us ++ (vb ++ rest0).drop (off * k.size + m * k.size + us.length)).toArray) := by
     rw [plain_add]; simpa using hst
    have hpre : (cs.take (off * k.size)).length = off * k.size := by simp; omega
    have hK := h b off c (cs.take (off * k.size)) hpre (fun e => e) (.inl rfl)
    rw [upd_ers] at hK
    have etake : cs.take (off * k.size) ++ (cs.drop (off * k.size)).take (m * k.size) = cs.take (off * k.size + m * k.size) := by
     rw [List.take_add]
    rw [etake] at hK
    have hWr : Wr w (w.setRow b ((vb ++ rest0).take (off * k.size + m * k.size) ++ us ++ (vb ++ rest0).drop (off * k.size + m * k.size + us.length)).toArray) b :=
     ⟨size_setRow _ _ _, fun j hj => setRow_other w b j _ hj, rfl, rfl, rfl⟩
    have eW := Ext.write (σ := σ) (x := .row (cs.take (off * k.size + m * k.size) ++ xs) k.size c) hWr ⟨_, hb, fun cs' s' c' e => by cases e; exact ⟨_, rfl⟩⟩
    have rW := r.write (x := .row (cs.take (off * k.size + m * k.size) ++ xs) k.size c) hWr ⟨_, hb, fun cs' s' c' e => by cases e; exact ⟨_, rfl⟩⟩
     ⟨vb.take (off * k.size + m * k.size) ++ us, (vb ++ rest0).drop (off * k.size + m * k.size + us.length), el0, by
      rw [setRow_heap w b _ _ _ _ g3, List.take_append_of_le_length (by omega)], ((g4.take _).append hrep).ext eW, by
      simp only [List.length_append, List.length_take, List.length_drop] at hfull g5 ⊢
      omega⟩
    refine ⟨.slice (some ⟨b, off * k.size, none⟩) (m + n) cap, _, _, _, append_fits (P := P) (w := w) hT hl hus hfit hst', ?_, rW, eW, hK⟩
    refine .own (by rw [size_setRow]; exact hbw) hfit (fun _ => rfl) (fun cs' s' c' e => ?_)
    rw [upd_same] at e
    cases e
    exact ⟨rfl, hcc⟩
  ·-- a new row
   have hold : ∀ d, (Builtin.firstCells k.size m (.slice (some a) m cap)).run P (atD w d) = .ok ((vb.drop (off * k.size)).take (m * k.size)).toArray (atD w d) := fun d => by
    have hsrc := src_ok (P := P) (u := .slice (some a) m cap) r (sz := k.size) (x := .own b k.size off m) (xs := (cs.drop (off * k.size)).take (m * k.size)) (m := m) ⟨rfl, rfl, cs, c, hb, hm, rfl⟩ (.own hbw hcap ha hrow)
    by_cases hc0 : cap = 0
    ·have hm0 : m = 0 := by omega
     subst hm0
     simp [Builtin.firstCells, loadCells, loadCellsFrom]
    ·obtain rfl := ha hc0
     have hl : ((vb.drop (off * k.size)).take (m * k.size)).length = m * k.size := by simp; omega
     have := run_loadCells_list (P := P) (atD w d) ⟨b, off * k.size, none⟩ ((vb.drop (off * k.size)).take (m * k.size)) (cells_of_row (w := w) g3 _ _ (by omega))
     rw [hl] at this
     simp only [Builtin.firstCells, this]
   obtain ⟨d, newCap, rest, el, h2, h3, h4⟩ := append_grows (P := P) (w := w) (t0 := t0) (t1 := t1) (ty := ty) hT hl hus hold hsum (by omega)
   have rD : Rel Γ (atD w d) σ := r.of_heap rfl rfl rfl rfl
   have eD : Ext w σ (atD w d) σ := Ext.of_heap rfl rfl rfl rfl
   have dE := Drop.ers σ b
   have rE : Rel Γ (atD w d) (ers σ b) := rD.drop dE
   have eE : Ext (atD w d) σ (atD w d) (ers σ b) := dE.ext _
   let cells := (cs.drop (off * k.size)).take (m * k.size) ++ xs
   have eA := Ext.alloc (w := atD w d) (σ := ers σ b) (.cells ((vb.drop (off * k.size)).take (m * k.size) ++ us ++ rest).toArray el (0, 0)) (.row cells k.size newCap) rE.fresh
   have hrow' : BlkRep { atD w d with heap := (atD w d).heap.push (.cells ((vb.drop (off * k.size)).take (m * k.size) ++ us ++ rest).toArray el (0, 0)) } (upd (ers σ b) w.heap.size (some (.row cells k.size newCap))) w.heap.size (.row cells k.size newCap) := by
    refine ⟨(vb.drop (off * k.size)).take (m * k.size) ++ us, rest, el, by simp, ((((g4.drop _).take _).append hrep).ext (eD.trans eE)).ext eA, ?_⟩
    have hl : ((vb.drop (off * k.size)).take (m * k.size)).length = m * k.size := by simp; omega
    simp only [List.length_append, hl, hul, h3]
    rw [← Nat.add_mul, ← Nat.add_mul]
    congr 1
    omega
   have rA := rE.alloc (.cells ((vb.drop (off * k.size)).take (m * k.size) ++ us ++ rest).toArray el (0, 0)) (.row cells k.size newCap) hrow'
   have hK := h w.heap.size 0 newCap [] (by simp) (fun _ => rfl) (.inr r.fresh)
   refine ⟨_, _, _, _, h4, ?_, rA, (eD.trans eE).trans eA, by simpa [cells] using hK⟩
   refine .own (by simp) h2 (fun _ => by simp) (fun cs' s' c' hc => ?_)
   have hsz : (atD w d).heap.size = w.heap.size := rfl
   rw [hsz, upd_same] at hc
   cases hc
   exact ⟨rfl, by omega⟩
end
end Go.AL
