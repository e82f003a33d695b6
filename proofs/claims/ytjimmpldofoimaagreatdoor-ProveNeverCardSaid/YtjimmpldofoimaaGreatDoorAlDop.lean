import Derived.Test.YtjimmpldofoimaaGreatDoorAlDet
set_option linter.unusedVariables false
set_option linter.unusedSimpArgs false
namespace Go.AL
def putL {α : Type} (l : List α) (k : Nat) (xs : List α) : List α := l.take k ++ xs ++ l.drop (k + xs.length)
theorem Reps.putL {w : World} {σ : Sig} {cs xs : List AV} {vs us : List Value} (h : Reps w σ cs vs) (h' : Reps w σ xs us) (k : Nat) : Reps w σ (AL.putL cs k xs) (AL.putL vs k us) := by
 unfold AL.putL
 rw [h'.length]
 exact ((h.take k).append h').append (h.drop _)
theorem putL_length {α : Type} (l : List α) (k : Nat) (xs : List α) (h : k + xs.length ≤ l.length) : (putL l k xs).length = l.length := by
 simp [putL]; omega
def fillA (place : Nat → Option (Nat × Nat)) : List AV → List (Nat × AV) → Option (List AV)
 | cells, [] => some cells
 | cells, (i, x) :: rest =>
  match place i, x.cells? with
  | some (off, size), some xs => if xs.length = size ∧ off + size ≤ cells.length then fillA place (putL cells off xs) rest else none
  | _, _ => none
theorem foldl_set_eq (cells : Array Value) (off : Nat) (xs : List Value) (h : off + xs.length ≤ cells.size) :
  (xs.toArray.zipIdx.foldl (fun cs (c, j) => cs.setIfInBounds (off + j) c) cells).toList = putL cells.toList off xs := by
 have key : ∀ (xs : List Value) (k : Nat) (cells : Array Value), off + k + xs.length ≤ cells.size →
   ((xs.zipIdx k).foldl (fun cs (c, j) => cs.setIfInBounds (off + j) c) cells).toList = putL cells.toList (off + k) xs := by
  intro xs
  induction xs with
  | nil => intro k cells _; simp [putL]
  | cons x xs ih =>
   intro k cells hl
   simp only [List.zipIdx_cons, List.foldl_cons]
   simp only [List.length_cons] at hl
   rw [ih (k + 1) _ (by simp; omega)]
   have := list_seg_step cells.toList (off + k) x xs (by simp; omega)
   simpa [putL, Array.toList_setIfInBounds, Nat.add_assoc] using this
 simpa using key xs 0 cells (by simpa using h)
theorem fillA_ok {w : World} {σ : Sig} {place : Nat → Option (Nat × Nat)} : ∀ {parts : List (Nat × AV)} {vparts : List (Nat × Value)} {cells r : List AV} {vcells : Array Value},
  fillA place cells parts = some r → Reps w σ cells vcells.toList → parts.map (·.1) = vparts.map (·.1) → Reps w σ (parts.map (·.2)) (vparts.map (·.2)) →
  ∃ vr : Array Value, Instr.fill place vcells vparts = some vr ∧ Reps w σ r vr.toList
 | [], [], cells, r, vcells, h, hc, _, _ => by
  simp only [fillA, Option.some.injEq] at h
  subst h
  exact ⟨vcells, rfl, hc⟩
 | [], _ :: _, _, _, _, _, _, hi, _ => by simp at hi
 | _ :: _, [], _, _, _, _, _, hi, _ => by simp at hi
 | (i, x) :: parts, (j, u) :: vparts, cells, r, vcells, h, hc, hi, hv => by
  simp only [List.map_cons, List.cons.injEq] at hi
  obtain ⟨rfl, hi⟩ := hi
  simp only [List.map_cons] at hv
  cases hv with
  | cons hx hv =>
   simp only [fillA] at h
   split at h
   ·rename_i off size xs hpl hxs
    split at h
    ·rename_i hcond
     have hxc := hx.cells hxs
     have hlen := hxc.length
     have hclen := hc.length
     have hsz : u.cells.size = size := by rw [← hcond.1, hlen]; simp
     have e := foldl_set_eq vcells off u.cells.toList (by rw [← hlen]; have := hcond.1; have := hcond.2; simp at hclen; omega)
     obtain ⟨vr, h1, h2⟩ := fillA_ok (vcells := u.cells.zipIdx.foldl (fun cs (c, j) => cs.setIfInBounds (off + j) c) vcells) h (by
      have e' : (u.cells.zipIdx.foldl (fun cs (c, j) => cs.setIfInBounds (off + j) c) vcells).toList = AL.putL vcells.toList off u.cells.toList := by simpa using e
      rw [e']; exact hc.putL hxc off) hi hv
     refine ⟨vr, ?_, h2⟩
     simp only [Instr.fill, hpl]
     rw [if_neg]
     ·exact h1
     ·simp [hsz]
      have := hcond.2
      simp at hclen
      omega
    ·cases h
   ·cases h
def fieldsOf (P : Program) (t : TypeId) : Option (List Field) :=
 match P.underlying t with
 | some (.struct fs) => some fs.toList
 | _ => none
theorem fieldsOf_some {P : Program} {t : TypeId} {fs : List Field} (h : fieldsOf P t = some fs) : P.underlying t = some (.struct fs.toArray) := by
 unfold fieldsOf at h
 split at h
 ·rename_i f hf
  cases h
  simpa using hf
 ·cases h
def elemOf (P : Program) (t : TypeId) : Option (Option Nat × TypeId) :=
 match P.underlying t with
 | some (.slice e) => some (none, e)
 | some (.array n e) => some (some n, e)
 | _ => none
theorem elemOf_slice {P : Program} {t e : TypeId} (h : elemOf P t = some (none, e)) : P.underlying t = some (.slice e) := by
 unfold elemOf at h; split at h <;> simp_all
theorem elemOf_array {P : Program} {t e : TypeId} {n : Nat} (h : elemOf P t = some (some n, e)) : P.underlying t = some (.array n e) := by
 unfold elemOf at h; split at h <;> simp_all
def places (P : Program) (t : TypeId) : Option (Nat → Option (Nat × Nat)) :=
 match fieldsOf P t with
 | some fs =>
  match fs.mapM (fun f => (tkOf P f.type).map fun k => (f.offset, k.size)) with
  | some l => some (fun i => l[i]?)
  | none => none
 | none =>
  match elemOf P t with
  | some (some n, e) => (tkOf P e).map fun k => fun i => some (i * k.size, k.size)
  | _ => none
def bnd (ev : Operand → AV) (d : Int) : Option Operand → Option Int
 | none => some d
 | some o => match ev o with | .v (.int _ n) => some n | _ => none
def litA (cs : List AV) : Nat → AV
 | 0 => .e0
 | n + 1 => .sl cs (n + 1)
def dop (P : Program) (Lf : TypeId → List LeafK) (pure : Bool) (ev : Operand → AV) (op : Op) (K : AV → Prop) : Prop :=
 match op with
 | .move x | .assign x => K (ev x)
 | .pick c a b =>
  match ev c with
  | .v (.bool t) => (t = true → K (ev a)) ∧ (t = false → K (ev b))
  | _ => False
 | .nilCheck x =>
  match ev x with
  | .v (.pointer (some a)) => K (.v (.pointer (some a)))
  | .pp cs off => K (.pp cs off)
  | .fn (.func f) a b => K (.fn (.func f) a b)
  | _ => False
 | .binOp op t x y _ => binA P Lf op t (ev x) (ev y) K
 | .unOp .not _ x => match ev x with | .v (.bool b) => K (.v (.bool (!b))) | _ => False
 | .unOp .neg _ x => match ev x with | .v (.int k n) => K (.v (.int k (k.wrap (0 - n)))) | _ => False
 | .convert src dst x =>
  match ev x with
  | .v (.int k n) => (P.underlying src).isSome = true ∧
   match P.underlying dst with
   | some (.int k') => K (.v (.int k' (k'.wrap n)))
   | some .string => K (.v (.string (Utf8.encode n)))
   | _ => False
  | .v (.string s) => (P.underlying src).isSome = true ∧ P.underlying dst = some .string ∧ K (.v (.string s))
  | _ => False
 | .makeFunc fn first captured => K (.fn fn (first.toList.map ev) (captured.toList.map ev))
 | .build t parts =>
  ∃ k pl cs, tkOf P t = some k ∧ places P t = some pl ∧ fillA pl k.zero (parts.toList.map fun p => (p.1, ev p.2)) = some cs ∧ K (.agg cs)
 | .buildSlice t n parts =>
  pure = true ∧ ∃ e k cs, elemOf P t = some (none, e) ∧ tkOf P e = some k ∧ k.size ≠ 0 ∧ n ≤ 65536 ∧ k.size ≤ 256 ∧ k.zero.length = k.size ∧
   fillA (fun i => some (i * k.size, k.size)) (List.replicate n k.zero).flatten (parts.toList.map fun p => (p.1, ev p.2)) = some cs ∧ K (litA cs n)
 | .box t x => pure = true ∧ ∃ cs, (ev x).cells? = some cs ∧ K (.pp cs 0)
 | .fieldAddr t x f =>
  ∃ fs fd k, fieldsOf P t = some fs ∧ fs[f]? = some fd ∧ tkOf P fd.type = some k ∧ k.size ≠ 0 ∧
   match ev x with
   | .v (.pointer (some ⟨b, off, none⟩)) => K (.v (.pointer (some ⟨b, off + fd.offset, none⟩)))
   | .pp cs off => K (.pp cs (off + fd.offset))
   | _ => False
 | .field t x f =>
  ∃ fs fd k, fieldsOf P t = some fs ∧ fs[f]? = some fd ∧ tkOf P fd.type = some k ∧
   match ev x with
   | .agg cs => ∃ r, k.part cs fd.offset = some r ∧ K r
   | _ => False
 | .index t x i =>
  match ev x, ev i with
  | .agg cs, .v (.int _ n) => ∃ m e k, elemOf P t = some (some m, e) ∧ tkOf P e = some k ∧ 0 ≤ n ∧ n < m ∧ ∃ r, k.part cs (n.toNat * k.size) = some r ∧ K r
  | .v (.string s), .v (.int _ n) => P.underlying t = some .string ∧ 0 ≤ n ∧ ∃ h : n.toNat < s.size, K (.v (.int .u8 (s[n.toNat]).toNat))
  | _, _ => False
 | .indexAddr t x i =>
  match ev i with
  | .v (.int _ n) =>
   match ev x with
   | .sl cs m => ∃ e k, elemOf P t = some (none, e) ∧ tkOf P e = some k ∧ 0 ≤ n ∧ n < m ∧ K (.pp cs (n.toNat * k.size))
   | .own b s off m => ∃ e k, elemOf P t = some (none, e) ∧ tkOf P e = some k ∧ k.size = s ∧ 0 ≤ n ∧ n < m ∧ K (.v (.pointer (some ⟨b, (off + n.toNat) * s, none⟩)))
   | .pp cs off => ∃ m e k, elemOf P t = some (some m, e) ∧ tkOf P e = some k ∧ 0 ≤ n ∧ n < m ∧ K (.pp cs (off + n.toNat * k.size))
   | .v (.pointer (some ⟨b, off, none⟩)) => ∃ m e k, elemOf P t = some (some m, e) ∧ tkOf P e = some k ∧ 0 ≤ n ∧ n < m ∧ K (.v (.pointer (some ⟨b, off + n.toNat * k.size, none⟩)))
   | _ => False
  | _ => False
 | .slice t x lo hi mx =>
  match ev x with
  | .v (.string s) => P.underlying t = some .string ∧ mx = none ∧ ∃ l h, bnd ev 0 lo = some l ∧ bnd ev s.size hi = some h ∧ 0 ≤ l ∧ l ≤ h ∧ h ≤ s.size ∧ K (.v (.string (s.extract l.toNat h.toNat)))
  | .sl cs n => ∃ e k l h, elemOf P t = some (none, e) ∧ tkOf P e = some k ∧ bnd ev 0 lo = some l ∧ bnd ev n hi = some h ∧ 0 ≤ l ∧ l ≤ h ∧ h ≤ n ∧
    match mx with
    | none => K (.sl ((cs.drop (l.toNat * k.size)).take ((h.toNat - l.toNat) * k.size)) (h.toNat - l.toNat))
    | some m => hi ≠ none ∧ ∃ m', bnd ev 0 (some m) = some m' ∧ h ≤ m' ∧ m' ≤ n ∧ (m' = l → K .e0) ∧ (m' ≠ l → K (.sl ((cs.drop (l.toNat * k.size)).take ((h.toNat - l.toNat) * k.size)) (h.toNat - l.toNat)))
  | .own b s off n => ∃ e k l h, elemOf P t = some (none, e) ∧ tkOf P e = some k ∧ k.size = s ∧ bnd ev 0 lo = some l ∧ bnd ev n hi = some h ∧ 0 ≤ l ∧ l ≤ h ∧ h ≤ n ∧
    match mx with
    | none => K (.own b s (off + l.toNat) (h.toNat - l.toNat))
    | some m => hi ≠ none ∧ bnd ev 0 (some m) = some l ∧ h = l ∧ K .e0
  | .v (.slice none 0 0) => ∃ e k, elemOf P t = some (none, e) ∧ tkOf P e = some k ∧ bnd ev 0 lo = some 0 ∧ bnd ev 0 hi = some 0 ∧ (mx = none ∨ hi ≠ none ∧ bnd ev 0 mx = some 0) ∧ K (.v (.slice none 0 0))
  | .e0 => ∃ e k, elemOf P t = some (none, e) ∧ tkOf P e = some k ∧ bnd ev 0 lo = some 0 ∧ bnd ev 0 hi = some 0 ∧ (mx = none ∨ hi ≠ none ∧ bnd ev 0 mx = some 0) ∧ K .e0
  | _ => False
 | .extract x i => match ev x with | .tup cs => ∃ r, cs[i]? = some r ∧ K r | _ => False
 | .call c =>
  match c.callee, c.args.toList, c.argTypes.toList with
  | .builtin .len, [x], t :: _ =>
   match ev x with
   | .sl _ n => (∃ e, P.underlying t = some (.slice e)) ∧ K (.v (.int .i64 n))
   | .own _ _ _ n => (∃ e, P.underlying t = some (.slice e)) ∧ K (.v (.int .i64 n))
   | .v (.slice none 0 0) => (∃ e, P.underlying t = some (.slice e)) ∧ K (.v (.int .i64 0))
   | .v (.slice (some _) n _) => (∃ e, P.underlying t = some (.slice e)) ∧ K (.v (.int .i64 n))
   | .e0 => (∃ e, P.underlying t = some (.slice e)) ∧ K (.v (.int .i64 0))
   | .v (.string s) => P.underlying t = some .string ∧ K (.v (.int .i64 s.size))
   | _ => False
  | .builtin .cap, [x], t :: _ =>
   match ev x with
   | .v (.slice none 0 0) => (∃ e, P.underlying t = some (.slice e)) ∧ K (.v (.int .i64 0))
   | .e0 => (∃ e, P.underlying t = some (.slice e)) ∧ K (.v (.int .i64 0))
   | _ => False
  | .builtin .min, [x, y], _ => match ev x, ev y with | .v (.int k a), .v (.int _ b) => K (.v (.int k (if b < a then b else a))) | _, _ => False
  | .builtin .max, [x, y], _ => match ev x, ev y with | .v (.int k a), .v (.int _ b) => K (.v (.int k (if a < b then b else a))) | _, _ => False
  | .builtin .unsafeSliceData, [x], _ => match ev x with | .v (.slice (some a) _ c) => c ≠ 0 ∧ K (.v (.pointer (some a))) | _ => False
  | _, _, _ => False
 | _ => False
end Go.AL
