import Derived.Test.YtjimmpldofoimaaGreatDoorAlCall
set_option linter.unusedVariables false
set_option linter.unusedSimpArgs false
namespace Go.AL
def Mk : Prop := 0 = 0
theorem Mk_true : Mk = True := propext ⟨fun _ => trivial, fun _ => rfl⟩
def vis {α : Sort _} (x : α) : α := x
theorem vis_eq {α : Sort _} (x : α) : vis x = x := Eq.subst (motive := fun y => y = x) (rfl : x = vis x) rfl
def optB {α : Type} (o : Option α) (f : α → Prop) : Prop := match o with | some x => f x | none => False
theorem optB_some {α : Type} (x : α) (f : α → Prop) : optB (some x) f = f x := propext Iff.rfl
theorem optB_iff {α : Type} {o : Option α} {f : α → Prop} : optB o f ↔ ∃ x, o = some x ∧ f x := by
 cases o with
 | none => exact ⟨fun h => h.elim, fun ⟨_, h, _⟩ => by cases h⟩
 | some x => exact ⟨fun h => ⟨x, rfl, h⟩, fun ⟨y, h, k⟩ => by cases h; exact k⟩
theorem optB_congr {α : Type} {o o' : Option α} {f : α → Prop} (h : vis o = o') : optB o f = optB o' f := by rw [← h]; rfl
def ifB (b : Bool) (x y : Prop) : Prop := (b = true → x) ∧ (b = false → y)
theorem ifB_true (x y : Prop) : ifB true x y = x := propext ⟨fun h => h.1 rfl, fun h => ⟨fun _ => h, nofun⟩⟩
theorem ifB_false (x y : Prop) : ifB false x y = y := propext ⟨fun h => h.2 rfl, fun h => ⟨nofun, fun _ => h⟩⟩
theorem ifB_congr {b b' : Bool} {x y : Prop} (h : vis b = b') : ifB b x y = ifB b' x y := by rw [← h]; rfl
def andB (a : Prop) (x : Prop) : Prop := a ∧ x
theorem andB_true (x : Prop) : andB True x = x := by simp [andB]
theorem andB_congr {a a' x : Prop} (h : vis a = a') : andB a x = andB a' x := by rw [← h]; rfl
def letB (x : AV) (f : AV → Prop) : Prop := f x
theorem letB_eq (x : AV) (f : AV → Prop) : letB x f = f x := propext Iff.rfl
theorem letB_congr {x x' : AV} {f : AV → Prop} (h : vis x = x') : letB x f = letB x' f := by rw [← h]; rfl
def flB (x : List Bool) (f : List Bool → Prop) : Prop := f x
theorem flB_eq (x : List Bool) (f : List Bool → Prop) : flB x f = f x := propext Iff.rfl
theorem flB_congr {x x' : List Bool} {f : List Bool → Prop} (h : vis x = x') : flB x f = flB x' f := by rw [← h]; rfl
def newB (σ : Sig) (f : Nat → Prop) : Prop := ∀ b, σ b = none → f b
theorem newB_congr {σ σ' : Sig} {f : Nat → Prop} (h : vis σ = σ') : newB σ f = newB σ' f := by rw [← h]; rfl
def binW (P : Program) (Lf : TypeId → List LeafK) (op : BinOp) (t : TypeId) (x y : AV) (K : AV → Prop) : Prop :=
 match op with
 | .add =>
  match x, y with
  | .v (.int k a), .v (.int k' b) => andB (k = k') (K (.v (.int k (k.wrap (a + b)))))
  | .v (.string a), .v (.string b) => andB (a.size + b.size ≤ 9223372036854775807) (K (.v (.string (a ++ b))))
  | _, _ => False
 | .sub =>
  match x, y with
  | .v (.int k a), .v (.int k' b) => andB (k = k') (K (.v (.int k (k.wrap (a - b)))))
  | _, _ => False
 | .mul =>
  match x, y with
  | .v (.int k a), .v (.int k' b) => andB (k = k') (K (.v (.int k (k.wrap (a * b)))))
  | _, _ => False
 | .quo =>
  match x, y with
  | .v (.int k a), .v (.int k' b) => andB (k = k') (andB (b ≠ 0) (K (.v (.int k (k.wrap (a.tdiv b))))))
  | _, _ => False
 | .rem =>
  match x, y with
  | .v (.int k a), .v (.int k' b) => andB (k = k') (andB (b ≠ 0) (K (.v (.int k (a.tmod b)))))
  | _, _ => False
 | .and =>
  match x, y with
  | .v (.int k a), .v (.int k' b) => andB (k = k') (K (.v (.int k (k.wrap (BitVec.ofInt k.bits a &&& BitVec.ofInt k.bits b).toNat))))
  | _, _ => False
 | .or =>
  match x, y with
  | .v (.int k a), .v (.int k' b) => andB (k = k') (K (.v (.int k (k.wrap (BitVec.ofInt k.bits a ||| BitVec.ofInt k.bits b).toNat))))
  | _, _ => False
 | .shl =>
  match x, y with
  | .v (.int k a), .v (.int k' b) => andB (0 ≤ b) (K (.v (.int k (k.wrap (a * 2 ^ (min b.toNat k.bits))))))
  | _, _ => False
 | .shr =>
  match x, y with
  | .v (.int k a), .v (.int k' b) => andB (0 ≤ b) (K (.v (.int k (a.fdiv (2 ^ (min b.toNat k.bits))))))
  | _, _ => False
 | .lss =>
  match x, y with
  | .v (.int k a), .v (.int k' b) => andB (k = k') (K (.v (.bool (decide (a < b)))))
  | .v (.string a), .v (.string b) => K (.v (.bool (Go.Op.bytesLess a.toList b.toList)))
  | _, _ => False
 | .leq =>
  match x, y with
  | .v (.int k a), .v (.int k' b) => andB (k = k') (K (.v (.bool (decide (a ≤ b)))))
  | _, _ => False
 | .gtr =>
  match x, y with
  | .v (.int k a), .v (.int k' b) => andB (k = k') (K (.v (.bool (decide (b < a)))))
  | .v (.string a), .v (.string b) => K (.v (.bool (!(Go.Op.bytesLess a.toList b.toList || a.toList == b.toList))))
  | _, _ => False
 | .geq =>
  match x, y with
  | .v (.int k a), .v (.int k' b) => andB (k = k') (K (.v (.bool (decide (b ≤ a)))))
  | _, _ => False
 | .eql =>
  match x, y with
  | .v (.int k a), .v (.int k' b) => andB (k = k') (K (.v (.bool (decide (a = b)))))
  | .v (.string a), .v (.string b) => K (.v (.bool (a.toList == b.toList)))
  | .v (.bool a), .v (.bool b) => andB (P.underlying t = some .bool) (K (.v (.bool (a == b))))
  | .v (.slice none 0 0), .v (.slice none 0 0) => optB (elemOf P t) fun e => andB (e.1 = none) (K (.v (.bool true)))
  | .v (.slice (some _) _ _), .v (.slice none 0 0) => optB (elemOf P t) fun e => andB (e.1 = none) (K (.v (.bool false)))
  | .own _ _ _ _, .v (.slice none 0 0) => optB (elemOf P t) fun e => andB (e.1 = none) (K (.v (.bool false)))
  | .sl cs n, .v (.slice none 0 0) => optB (elemOf P t) fun e => andB (e.1 = none) (andB (cs ≠ []) (K (.v (.bool false))))
  | .agg xs, .agg ys => andB (AggEq P t (Lf t)) (optB (leavesEq (Lf t) xs ys) fun r => K (.v (.bool r)))
  | _, _ => False
 | .neq =>
  match x, y with
  | .v (.int k a), .v (.int k' b) => andB (k = k') (K (.v (.bool (!decide (a = b)))))
  | .v (.string a), .v (.string b) => K (.v (.bool (!(a.toList == b.toList))))
  | .v (.bool a), .v (.bool b) => andB (P.underlying t = some .bool) (K (.v (.bool (!(a == b)))))
  | .v (.slice none 0 0), .v (.slice none 0 0) => optB (elemOf P t) fun e => andB (e.1 = none) (K (.v (.bool false)))
  | .v (.slice (some _) _ _), .v (.slice none 0 0) => optB (elemOf P t) fun e => andB (e.1 = none) (K (.v (.bool true)))
  | .own _ _ _ _, .v (.slice none 0 0) => optB (elemOf P t) fun e => andB (e.1 = none) (K (.v (.bool true)))
  | .sl cs n, .v (.slice none 0 0) => optB (elemOf P t) fun e => andB (e.1 = none) (andB (cs ≠ []) (K (.v (.bool true))))
  | .agg xs, .agg ys => andB (AggEq P t (Lf t)) (optB (leavesEq (Lf t) xs ys) fun r => K (.v (.bool (!r))))
  | _, _ => False
 | _ => False
theorem slice_of {P : Program} {t : TypeId} {e : Option Nat × TypeId} (h : elemOf P t = some e) (h' : e.1 = none) : ∃ e, P.underlying t = some (.slice e) := by
 obtain ⟨a, b⟩ := e
 dsimp only at h'
 subst h'
 exact ⟨b, elemOf_slice h⟩
theorem binW_A {P : Program} {Lf : TypeId → List LeafK} {op : BinOp} {t : TypeId} {x y : AV} {K : AV → Prop} (h : binW P Lf op t x y K) : binA P Lf op t x y K := by
 unfold binW at h
 unfold binA
 cases op <;> (try exact h.elim) <;> dsimp only at h ⊢ <;> split at h <;> first
  | exact h.elim
  | exact h
  | (obtain ⟨e, he, h1, h2⟩ := optB_iff.1 h; exact ⟨slice_of he h1, h2⟩)
  | (obtain ⟨h0, h1⟩ := h; obtain ⟨r, hr, h2⟩ := optB_iff.1 h1; exact ⟨h0, r, hr, h2⟩)
def dopW (P : Program) (Lf : TypeId → List LeafK) (pure : Bool) (ev : Operand → AV) (op : Op) (K : AV → Prop) : Prop :=
 match op with
 | .move x | .assign x => K (ev x)
 | .pick c a b =>
  match ev c with
  | .v (.bool t) => ifB t (K (ev a)) (K (ev b))
  | _ => False
 | .nilCheck x =>
  match ev x with
  | .v (.pointer (some a)) => K (.v (.pointer (some a)))
  | .pp cs off => K (.pp cs off)
  | .fn (.func f) a b => K (.fn (.func f) a b)
  | _ => False
 | .binOp op t x y _ => binW P Lf op t (ev x) (ev y) K
 | .unOp .not _ x => match ev x with | .v (.bool b) => K (.v (.bool (!b))) | _ => False
 | .unOp .neg _ x => match ev x with | .v (.int k n) => K (.v (.int k (k.wrap (0 - n)))) | _ => False
 | .convert src dst x =>
  match ev x with
  | .v (.int k n) => andB ((P.underlying src).isSome = true)
   (match P.underlying dst with
   | some (.int k') => K (.v (.int k' (k'.wrap n)))
   | some .string => K (.v (.string (Utf8.encode n)))
   | _ => False)
  | .v (.string s) => andB ((P.underlying src).isSome = true) (andB (P.underlying dst = some .string) (K (.v (.string s))))
  | _ => False
 | .makeFunc fn first captured => K (.fn fn (first.toList.map ev) (captured.toList.map ev))
 | .build t parts => optB (tkOf P t) fun k => optB (places P t) fun pl => optB (fillA pl k.zero (parts.toList.map fun p => (p.1, ev p.2))) fun cs => K (.agg cs)
 | .buildSlice t n parts =>
  andB (pure = true) (optB (elemOf P t) fun e => optB (tkOf P e.2) fun k => andB (e.1 = none ∧ k.size ≠ 0 ∧ n ≤ 65536 ∧ k.size ≤ 256 ∧ k.zero.length = k.size)
   (optB (fillA (fun i => some (i * k.size, k.size)) (List.replicate n k.zero).flatten (parts.toList.map fun p => (p.1, ev p.2))) fun cs => K (litA cs n)))
 | .box t x => andB (pure = true) (optB (ev x).cells? fun cs => K (.pp cs 0))
 | .fieldAddr t x f =>
  optB (fieldsOf P t) fun fs => optB fs[f]? fun fd => optB (tkOf P fd.type) fun k => andB (k.size ≠ 0)
   (match ev x with
   | .v (.pointer (some ⟨b, off, none⟩)) => K (.v (.pointer (some ⟨b, off + fd.offset, none⟩)))
   | .pp cs off => K (.pp cs (off + fd.offset))
   | _ => False)
 | .field t x f =>
  optB (fieldsOf P t) fun fs => optB fs[f]? fun fd => optB (tkOf P fd.type) fun k =>
   match ev x with
   | .agg cs => optB (k.part cs fd.offset) K
   | _ => False
 | .index t x i =>
  match ev x, ev i with
  | .agg cs, .v (.int _ n) => optB (elemOf P t) fun e => optB (tkOf P e.2) fun k => optB e.1 fun m => andB (0 ≤ n ∧ n < m) (optB (k.part cs (n.toNat * k.size)) K)
  | .v (.string s), .v (.int _ n) => andB (P.underlying t = some .string) (andB (0 ≤ n ∧ n.toNat < s.size) (K (.v (.int .u8 (s.data.getD n.toNat 0).toNat))))
  | _, _ => False
 | .indexAddr t x i =>
  match ev i with
  | .v (.int _ n) =>
   optB (elemOf P t) fun e => optB (tkOf P e.2) fun k =>
   match ev x with
   | .sl cs m => andB (e.1 = none) (andB (0 ≤ n ∧ n < m) (K (.pp cs (n.toNat * k.size))))
   | .own b s off m => andB (e.1 = none ∧ k.size = s) (andB (0 ≤ n ∧ n < m) (K (.v (.pointer (some ⟨b, (off + n.toNat) * s, none⟩)))))
   | .pp cs off => optB e.1 fun m => andB (0 ≤ n ∧ n < m) (K (.pp cs (off + n.toNat * k.size)))
   | .v (.pointer (some ⟨b, off, none⟩)) => optB e.1 fun m => andB (0 ≤ n ∧ n < m) (K (.v (.pointer (some ⟨b, off + n.toNat * k.size, none⟩))))
   | _ => False
  | _ => False
 | .slice t x lo hi mx =>
  match ev x with
  | .v (.string s) => andB (P.underlying t = some .string ∧ mx = none) (optB (bnd ev 0 lo) fun l => optB (bnd ev s.size hi) fun h => andB (0 ≤ l ∧ l ≤ h ∧ h ≤ s.size) (K (.v (.string (s.extract l.toNat h.toNat)))))
  | .sl cs n => optB (elemOf P t) fun e => optB (tkOf P e.2) fun k => optB (bnd ev 0 lo) fun l => optB (bnd ev n hi) fun h => andB (e.1 = none ∧ 0 ≤ l ∧ l ≤ h ∧ h ≤ n)
    (match mx with
    | none => K (.sl ((cs.drop (l.toNat * k.size)).take ((h.toNat - l.toNat) * k.size)) (h.toNat - l.toNat))
    | some m => andB (hi ≠ none) (optB (bnd ev 0 (some m)) fun m' => andB (h ≤ m' ∧ m' ≤ n) (ifB (decide (m' = l)) (K .e0) (K (.sl ((cs.drop (l.toNat * k.size)).take ((h.toNat - l.toNat) * k.size)) (h.toNat - l.toNat))))))
  | .own b s off n => optB (elemOf P t) fun e => optB (tkOf P e.2) fun k => optB (bnd ev 0 lo) fun l => optB (bnd ev n hi) fun h => andB (e.1 = none ∧ k.size = s ∧ 0 ≤ l ∧ l ≤ h ∧ h ≤ n)
    (match mx with
    | none => K (.own b s (off + l.toNat) (h.toNat - l.toNat))
    | some m => andB (hi ≠ none) (optB (bnd ev 0 (some m)) fun m' => andB (m' = l ∧ h = l) (K .e0)))
  | .v (.slice none 0 0) => optB (elemOf P t) fun e => optB (tkOf P e.2) fun k => andB (e.1 = none ∧ bnd ev 0 lo = some 0 ∧ bnd ev 0 hi = some 0 ∧ (mx = none ∨ hi ≠ none ∧ bnd ev 0 mx = some 0)) (K (.v (.slice none 0 0)))
  | .e0 => optB (elemOf P t) fun e => optB (tkOf P e.2) fun k => andB (e.1 = none ∧ bnd ev 0 lo = some 0 ∧ bnd ev 0 hi = some 0 ∧ (mx = none ∨ hi ≠ none ∧ bnd ev 0 mx = some 0)) (K .e0)
  | _ => False
 | .extract x i => match ev x with | .tup cs => optB cs[i]? K | _ => False
 | .call c =>
  match c.callee, c.args.toList, c.argTypes.toList with
  | .builtin .len, [x], t :: _ =>
   match ev x with
   | .sl _ n => optB (elemOf P t) fun e => andB (e.1 = none) (K (.v (.int .i64 n)))
   | .own _ _ _ n => optB (elemOf P t) fun e => andB (e.1 = none) (K (.v (.int .i64 n)))
   | .v (.slice none 0 0) => optB (elemOf P t) fun e => andB (e.1 = none) (K (.v (.int .i64 0)))
   | .v (.slice (some _) n _) => optB (elemOf P t) fun e => andB (e.1 = none) (K (.v (.int .i64 n)))
   | .e0 => optB (elemOf P t) fun e => andB (e.1 = none) (K (.v (.int .i64 0)))
   | .v (.string s) => andB (P.underlying t = some .string) (K (.v (.int .i64 s.size)))
   | _ => False
  | .builtin .cap, [x], t :: _ =>
   match ev x with
   | .v (.slice none 0 0) => optB (elemOf P t) fun e => andB (e.1 = none) (K (.v (.int .i64 0)))
   | .e0 => optB (elemOf P t) fun e => andB (e.1 = none) (K (.v (.int .i64 0)))
   | _ => False
  | .builtin .min, [x, y], _ => match ev x, ev y with | .v (.int k a), .v (.int _ b) => K (.v (.int k (if b < a then b else a))) | _, _ => False
  | .builtin .max, [x, y], _ => match ev x, ev y with | .v (.int k a), .v (.int _ b) => K (.v (.int k (if a < b then b else a))) | _, _ => False
  | .builtin .unsafeSliceData, [x], _ => match ev x with | .v (.slice (some a) _ c) => andB (c ≠ 0) (K (.v (.pointer (some a)))) | _ => False
  | _, _, _ => False
 | _ => False
theorem getD_of_lt (s : ByteArray) (n : Nat) (h : n < s.size) : s[n] = s.data.getD n 0 := by
 have h' : n < s.data.size := h
 simp only [ByteArray.getElem_eq_getElem_data, Array.getD_eq_getD_getElem?, Array.getElem?_eq_getElem h', Option.getD_some]
theorem dopW_dop {P : Program} {Lf : TypeId → List LeafK} {pu : Bool} {ev : Operand → AV} {op : Op} {K : AV → Prop} (h : dopW P Lf pu ev op K) : dop P Lf pu ev op K := by
 cases op <;> (try exact h) <;> (try exact h.elim)
 case unOp o t x => cases o <;> first | exact h | exact h.elim
 case binOp op t x y z => exact binW_A h
 case build t ps =>
  obtain ⟨k, h1, h⟩ := optB_iff.1 h
  obtain ⟨pl, h2, h⟩ := optB_iff.1 h
  obtain ⟨cs, h3, h⟩ := optB_iff.1 h
  exact ⟨k, pl, cs, h1, h2, h3, h⟩
 case buildSlice t n ps =>
  obtain ⟨h0, q1⟩ := h
  obtain ⟨⟨a, e⟩, h1, q2⟩ := optB_iff.1 q1
  obtain ⟨k, h2, ⟨g1, g2, g3, g4, g5⟩, q3⟩ := optB_iff.1 q2
  obtain ⟨cs, h3, q4⟩ := optB_iff.1 q3
  obtain rfl : a = none := g1
  exact ⟨h0, e, k, cs, h1, h2, g2, g3, g4, g5, h3, q4⟩
 case box t x =>
  obtain ⟨h0, h⟩ := h
  obtain ⟨cs, h1, h⟩ := optB_iff.1 h
  exact ⟨h0, cs, h1, h⟩
 case fieldAddr t x f =>
  obtain ⟨fs, h1, h⟩ := optB_iff.1 h
  obtain ⟨fd, h2, h⟩ := optB_iff.1 h
  obtain ⟨k, h3, h⟩ := optB_iff.1 h
  obtain ⟨h4, h⟩ := h
  exact ⟨fs, fd, k, h1, h2, h3, h4, h⟩
 case field t x f =>
  obtain ⟨fs, h1, h⟩ := optB_iff.1 h
  obtain ⟨fd, h2, h⟩ := optB_iff.1 h
  obtain ⟨k, h3, h⟩ := optB_iff.1 h
  refine ⟨fs, fd, k, h1, h2, h3, ?_⟩
  split at h
  ·rename_i he
   obtain ⟨r, h4, h⟩ := optB_iff.1 h
   rw [he]
   exact ⟨r, h4, h⟩
  ·exact h.elim
 case index t x i =>
  simp only [dopW] at h
  simp only [dop]
  generalize ev x = X at h ⊢
  generalize ev i = I at h ⊢
  split at h
  ·obtain ⟨⟨a, e⟩, h1, q5⟩ := optB_iff.1 h
   obtain ⟨k, h2, q6⟩ := optB_iff.1 q5
   obtain ⟨m, h3, ⟨g1, g2⟩, q7⟩ := optB_iff.1 q6
   obtain ⟨r, h4, q8⟩ := optB_iff.1 q7
   obtain rfl : a = some m := h3
   exact ⟨m, e, k, h1, h2, g1, g2, r, h4, q8⟩
  ·obtain ⟨h1, ⟨h2, h3⟩, h⟩ := h
   exact ⟨h1, h2, h3, by rw [getD_of_lt _ _ h3]; exact h⟩
  ·exact h.elim
 case indexAddr t x i =>
  simp only [dopW] at h
  simp only [dop]
  generalize ev x = X at h ⊢
  generalize ev i = I at h ⊢
  split at h
  ·obtain ⟨⟨a, e⟩, h1, q9⟩ := optB_iff.1 h
   obtain ⟨k, h2, q10⟩ := optB_iff.1 q9
   dsimp only at h2 q10
   split at q10
   ·obtain ⟨h3, ⟨h4, h5⟩, q11⟩ := q10
    subst h3
    exact ⟨e, k, h1, h2, h4, h5, q11⟩
   ·obtain ⟨⟨h3, h6⟩, ⟨h4, h5⟩, q12⟩ := q10
    subst h3
    exact ⟨e, k, h1, h2, h6, h4, h5, q12⟩
   ·obtain ⟨m, h3, ⟨h4, h5⟩, q13⟩ := optB_iff.1 q10
    subst h3
    exact ⟨m, e, k, h1, h2, h4, h5, q13⟩
   ·obtain ⟨m, h3, ⟨h4, h5⟩, q14⟩ := optB_iff.1 q10
    subst h3
    exact ⟨m, e, k, h1, h2, h4, h5, q14⟩
   ·exact q10.elim
  ·exact h.elim
 case slice t x lo hi mx =>
  simp only [dopW] at h
  simp only [dop]
  generalize ev x = X at h ⊢
  split at h
  ·obtain ⟨⟨h1, h2⟩, h⟩ := h
   obtain ⟨l, h3, h⟩ := optB_iff.1 h
   obtain ⟨u, h4, ⟨h5, h6, h7⟩, h⟩ := optB_iff.1 h
   exact ⟨h1, h2, l, u, h3, h4, h5, h6, h7, h⟩
  ·obtain ⟨⟨a, e⟩, h1, q15⟩ := optB_iff.1 h
   obtain ⟨k, h2, q16⟩ := optB_iff.1 q15
   obtain ⟨l, h3, q17⟩ := optB_iff.1 q16
   obtain ⟨u, h4, ⟨h5, h6, h7, h8⟩, q18⟩ := optB_iff.1 q17
   dsimp only at h5 h2
   subst h5
   refine ⟨e, k, l, u, h1, h2, h3, h4, h6, h7, h8, ?_⟩
   split at q18
   ·exact q18
   ·obtain ⟨g1, q19⟩ := q18
    obtain ⟨m', g2, ⟨g3, g4⟩, q20⟩ := optB_iff.1 q19
    exact ⟨g1, m', g2, g3, g4, fun e => q20.1 (by simpa using e), fun e => q20.2 (by simpa using e)⟩
  ·obtain ⟨⟨a, e⟩, h1, q21⟩ := optB_iff.1 h
   obtain ⟨k, h2, q22⟩ := optB_iff.1 q21
   obtain ⟨l, h3, q23⟩ := optB_iff.1 q22
   obtain ⟨u, h4, ⟨h5, h9, h6, h7, h8⟩, q24⟩ := optB_iff.1 q23
   dsimp only at h5 h2
   subst h5
   refine ⟨e, k, l, u, h1, h2, h9, h3, h4, h6, h7, h8, ?_⟩
   split at q24
   ·exact q24
   ·obtain ⟨g1, q25⟩ := q24
    obtain ⟨m', g2, ⟨g3, g4⟩, q26⟩ := optB_iff.1 q25
    subst g3
    exact ⟨g1, g2, g4, q26⟩
  ·obtain ⟨⟨a, e⟩, h1, q27⟩ := optB_iff.1 h
   obtain ⟨k, h2, ⟨h3, h4, h5, h6⟩, q28⟩ := optB_iff.1 q27
   dsimp only at h3 h2
   subst h3
   exact ⟨e, k, h1, h2, h4, h5, h6, q28⟩
  ·obtain ⟨⟨a, e⟩, h1, q29⟩ := optB_iff.1 h
   obtain ⟨k, h2, ⟨h3, h4, h5, h6⟩, q30⟩ := optB_iff.1 q29
   dsimp only at h3 h2
   subst h3
   exact ⟨e, k, h1, h2, h4, h5, h6, q30⟩
  ·exact h.elim
 case extract x i =>
  simp only [dopW] at h
  simp only [dop]
  generalize ev x = X at h ⊢
  split at h
  ·exact optB_iff.1 h
  ·exact h.elim
 case call c =>
  simp only [dopW] at h
  simp only [dop]
  generalize c.callee = C at h ⊢
  generalize c.args.toList = A at h ⊢
  generalize c.argTypes.toList = T at h ⊢
  split at h
  ·rename_i x t _
   dsimp only
   generalize ev x = X at h ⊢
   split at h
   all_goals first
    | exact h
    | exact h.elim
    | (obtain ⟨e, h1, h2, h⟩ := optB_iff.1 h; exact ⟨slice_of h1 h2, h⟩)
  ·rename_i x t _
   dsimp only
   generalize ev x = X at h ⊢
   split at h
   all_goals first
    | exact h
    | exact h.elim
    | (obtain ⟨e, h1, h2, h⟩ := optB_iff.1 h; exact ⟨slice_of h1 h2, h⟩)
  ·exact h
  ·exact h
  ·exact h
  ·exact h.elim
end Go.AL
