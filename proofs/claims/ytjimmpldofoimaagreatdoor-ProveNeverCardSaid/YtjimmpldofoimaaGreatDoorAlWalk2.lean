import Derived.Test.YtjimmpldofoimaaGreatDoorAlWalk
set_option linter.unusedVariables false
set_option linter.unusedSimpArgs false
namespace Go.AL
theorem rowOf_some {o : Option Blk} {q : List AV × Nat × Nat × Bool} (h : rowOf o = some q) (h1 : q.2.1 = 1) : o = some (.row q.1 q.2.1 q.2.2.1) := by
 unfold rowOf at h
 split at h
 ·cases h; rfl
 ·cases h; cases h1
 ·cases h
def iterOf : Option Blk → Option (ByteArray × Nat)
 | some (.obj (.stringIter s pos)) => some (s, pos)
 | _ => none
theorem iterOf_some {o : Option Blk} {q : ByteArray × Nat} (h : iterOf o = some q) : o = some (.obj (.stringIter q.1 q.2)) := by
 unfold iterOf at h
 split at h
 ·cases h; rfl
 ·cases h
def blkB (x : Blk) (f : Blk → Prop) : Prop := f x
theorem blkB_eq (x : Blk) (f : Blk → Prop) : blkB x f = f x := propext Iff.rfl
theorem blkB_congr {x x' : Blk} {f : Blk → Prop} (h : vis x = x') : blkB x f = blkB x' f := by rw [← h]; rfl
def appB (P : Program) (Γ : Glob) (σ : Sig) (t0 t1 : TypeId) (s x : AV) (K : AV → Sig → Prop) : Prop := ∀ ty, SemOk P Γ σ [s, x] (fun vs => Builtin.append_ #[t0, t1] ty vs.toArray) K
def copB (P : Program) (Γ : Glob) (σ : Sig) (t0 t1 : TypeId) (s x : AV) (K : AV → Sig → Prop) : Prop := ∀ ty, SemOk P Γ σ [s, x] (fun vs => Builtin.copy_ #[t0, t1] ty vs.toArray) K
def callB (P : Program) (Γ : Glob) (fv : AV) (args : List AV) (σ : Sig) (K : AV → Sig → Prop) : Prop := callOp P Γ fv args σ K
def dcallB (P : Program) (Γ : Glob) (fv : AV) (args : List AV) (σ : Sig) (K : AV → Sig → Prop) : Prop := ∃ r, DCall P Γ fv args r ∧ K r σ
def strB (P : Program) (Γ : Glob) (σ : Sig) (ts : Array TypeId) (s x : AV) (K : AV → Sig → Prop) : Prop := ∀ ty, SemOk P Γ σ [s, x] (fun vs => Builtin.unsafeString_ ts ty vs.toArray) K
theorem strB_congr {P : Program} {Γ : Glob} {σ σ' : Sig} {ts : Array TypeId} {s s' x x' : AV} {K : AV → Sig → Prop} (h0 : vis σ = σ') (h : vis s = s') (h' : vis x = x') : strB P Γ σ ts s x K = strB P Γ σ' ts s' x' K := by rw [← h0, ← h, ← h']; rfl
def lookB (P : Program) (Γ : Glob) (σ : Sig) (t : TypeId) (ok : Bool) (m k : AV) (K : AV → Sig → Prop) : Prop := SemOk P Γ σ [m, k] (fun vs => Instr.lookup t (vs.getD 0 undef) (vs.getD 1 undef) ok) K
def mupB (P : Program) (Γ : Glob) (σ : Sig) (t : TypeId) (m k x : AV) (K : AV → Sig → Prop) : Prop := SemOk P Γ σ [m, k, x] (fun vs => do Instr.mapUpdate t (vs.getD 0 undef) (vs.getD 1 undef) (vs.getD 2 undef); pure undef) K
theorem lookB_congr {P : Program} {Γ : Glob} {σ σ' : Sig} {t : TypeId} {ok : Bool} {m m' k k' : AV} {K : AV → Sig → Prop} (h0 : vis σ = σ') (h : vis m = m') (h' : vis k = k') : lookB P Γ σ t ok m k K = lookB P Γ σ' t ok m' k' K := by rw [← h0, ← h, ← h']; rfl
theorem mupB_congr {P : Program} {Γ : Glob} {σ σ' : Sig} {t : TypeId} {m m' k k' x x' : AV} {K : AV → Sig → Prop} (h0 : vis σ = σ') (h : vis m = m') (h' : vis k = k') (h2 : vis x = x') : mupB P Γ σ t m k x K = mupB P Γ σ' t m' k' x' K := by rw [← h0, ← h, ← h', ← h2]; rfl
theorem appB_congr {P : Program} {Γ : Glob} {σ σ' : Sig} {t0 t1 : TypeId} {s s' x x' : AV} {K : AV → Sig → Prop} (h0 : vis σ = σ') (h : vis s = s') (h' : vis x = x') : appB P Γ σ t0 t1 s x K = appB P Γ σ' t0 t1 s' x' K := by rw [← h0, ← h, ← h']; rfl
theorem copB_congr {P : Program} {Γ : Glob} {σ σ' : Sig} {t0 t1 : TypeId} {s s' x x' : AV} {K : AV → Sig → Prop} (h0 : vis σ = σ') (h : vis s = s') (h' : vis x = x') : copB P Γ σ t0 t1 s x K = copB P Γ σ' t0 t1 s' x' K := by rw [← h0, ← h, ← h']; rfl
theorem callB_congr {P : Program} {Γ : Glob} {fv fv' : AV} {args args' : List AV} {σ σ' : Sig} {K : AV → Sig → Prop} (h0 : vis σ = σ') (h : vis fv = fv') (h' : vis args = args') : callB P Γ fv args σ K = callB P Γ fv' args' σ' K := by rw [← h0, ← h, ← h']; rfl
def ocallB (P : Program) (Γ : Glob) (fv : AV) (args : List AV) (σ : Sig) (K : AV → Sig → Prop) : Prop := ∃ s cs n, OCall P Γ fv args s cs n ∧ ∀ a σ', Made σ s cs n a σ' → K a σ'
theorem ocallB_congr {P : Program} {Γ : Glob} {fv fv' : AV} {args args' : List AV} {σ σ' : Sig} {K : AV → Sig → Prop} (h0 : vis σ = σ') (h : vis fv = fv') (h' : vis args = args') : ocallB P Γ fv args σ K = ocallB P Γ fv' args' σ' K := by
 rw [← h0, ← h, ← h']; rfl
def rlookB (P : Program) (Γ : Glob) (σ : Sig) (t : TypeId) (ok : Bool) (m k : AV) (K : AV → Sig → Prop) : Prop := ∃ r, (∀ σ', (∀ b x, σ b = some x → σ' b = some x) → ∀ K, K r σ' → lookB P Γ σ' t ok m k K) ∧ K r σ
theorem rlookB_congr {P : Program} {Γ : Glob} {σ σ' : Sig} {t : TypeId} {ok : Bool} {m m' k k' : AV} {K : AV → Sig → Prop} (h0 : vis σ = σ') (h : vis m = m') (h' : vis k = k') : rlookB P Γ σ t ok m k K = rlookB P Γ σ' t ok m' k' K := by rw [← h0, ← h, ← h']; rfl
def rappB (P : Program) (Γ : Glob) (σ : Sig) (t0 t1 : TypeId) (s x : AV) (K : AV → Sig → Prop) : Prop := ∃ r, (∀ σ', (∀ b x, σ b = some x → σ' b = some x) → ∀ K, K r σ' → appB P Γ σ' t0 t1 s x K) ∧ K r σ
theorem rappB_congr {P : Program} {Γ : Glob} {σ σ' : Sig} {t0 t1 : TypeId} {s s' x x' : AV} {K : AV → Sig → Prop} (h0 : vis σ = σ') (h : vis s = s') (h' : vis x = x') : rappB P Γ σ t0 t1 s x K = rappB P Γ σ' t0 t1 s' x' K := by
 rw [← h0, ← h, ← h']; rfl
def rcallB (P : Program) (Γ : Glob) (fv : AV) (args : List AV) (σ : Sig) (K : AV → Sig → Prop) : Prop := ∃ r, (∀ σ', (∀ b x, σ b = some x → σ' b = some x) → ∀ K, K r σ' → callB P Γ fv args σ' K) ∧ K r σ
theorem rcallB_congr {P : Program} {Γ : Glob} {fv fv' : AV} {args args' : List AV} {σ σ' : Sig} {K : AV → Sig → Prop} (h0 : vis σ = σ') (h : vis fv = fv') (h' : vis args = args') : rcallB P Γ fv args σ K = rcallB P Γ fv' args' σ' K := by
 rw [← h0, ← h, ← h']; rfl
theorem dcallB_congr {P : Program} {Γ : Glob} {fv fv' : AV} {args args' : List AV} {σ σ' : Sig} {K : AV → Sig → Prop} (h0 : vis σ = σ') (h : vis fv = fv') (h' : vis args = args') : dcallB P Γ fv args σ K = dcallB P Γ fv' args' σ' K := by rw [← h0, ← h, ← h']; rfl
def aopW (P : Program) (Lf : TypeId → List LeafK) (Γ : Glob) (pure : Bool) (ev : Operand → AV) (σ : Sig) (op : Op) (K : AV → Sig → Prop) : Prop :=
 match op with
 | .load t a =>
  match ev a with
  | .pp cs off => optB (tkOf P t) fun k => optB (k.part cs off) fun r => K r σ
  | .v (.pointer (some ⟨b, off, none⟩)) => optB (tkOf P t) fun k => optB (rowOf (σ b)) fun q => optB (k.part q.1 off) fun r => K r σ
  | _ => False
 | .store t a x =>
  match ev a with
  | .v (.pointer (some ⟨b, off, none⟩)) => optB (tkOf P t) fun k => optB (ev x).cells? fun xs => optB (rowOf (σ b)) fun q => andB (xs.length = k.size ∧ xs.all AV.one = true ∧ off + k.size ≤ q.1.length) (blkB (mkB (putL q.1 off xs) q) fun x => K (.v undef) (upd σ b (some x)))
  | _ => False
 | .alloc t => optB (tkOf P t) fun k => newB σ fun b => blkB (allocB t k) fun x => K (.v (.pointer (some ⟨b, 0, none⟩))) (upd σ b (some x))
 | .box t x => ifB pure (optB (ev x).cells? fun cs => K (.pp cs 0) σ) (optB (ev x).cells? fun xs => newB σ fun b => K (.v (.pointer (some ⟨b, 0, none⟩))) (upd σ b (some (.row xs xs.length 1))))
 | .buildSlice t n parts =>
  optB (elemOf P t) fun e => optB (tkOf P e.2) fun k => andB (e.1 = none ∧ k.size ≠ 0 ∧ n ≤ 65536 ∧ k.size ≤ 256 ∧ k.zero.length = k.size)
   (optB (fillA (fun i => some (i * k.size, k.size)) (List.replicate n k.zero).flatten (parts.toList.map fun p => (p.1, ev p.2))) fun cs =>
    ifB pure (K (litA cs n) σ) (newB σ fun b => K (.own b k.size 0 n) (upd σ b (some (.row cs k.size n)))))
 | .makeSlice t l c =>
  match ev l, ev c with
  | .v (.int .i64 n), .v (.int .i64 m) => optB (elemOf P t) fun e => optB (tkOf P e.2) fun k => andB (e.1 = none ∧ k.size ≠ 0 ∧ k.zero.length = k.size) (andB (0 ≤ n ∧ n ≤ m ∧ (P.bytesOf e.2 : Int) * m ≤ 140737488355328 ∧ m ≤ 9223372036854775807)
    (newB σ fun b => K (.own b k.size 0 n.toNat) (upd σ b (some (.row (List.replicate m.toNat k.zero).flatten k.size m.toNat)))))
  | _, _ => False
 | .makeMap _ none => newB σ fun b => K (.v (.map (some b))) (upd σ b (some (.map [])))
 | .range t x =>
  match ev x with
  | .v (.string s) => andB (P.underlying t = some .string) (newB σ fun b => K (.v (.pointer (some ⟨b, 0, none⟩))) (upd σ b (some (.obj (.stringIter s 0)))))
  | _ => False
 | .next it true =>
  match ev it with
  | .v (.pointer (some ⟨b, 0, none⟩)) => optB (iterOf (σ b)) fun q => ifB (decide (q.2 < q.1.size))
    (K (.tup [.v (.bool true), .v (.int .i64 q.2), .v (.int .i32 (Utf8.decode q.1 q.2).1)]) (upd σ b (some (.obj (.stringIter q.1 (q.2 + (Utf8.decode q.1 q.2).2))))))
    (K (.tup [.v (.bool false)]) σ)
  | _ => False
 | .lookup t m k ok => lookB P Γ σ t ok (ev m) (ev k) K
 | .mapUpdate t m k x => mupB P Γ σ t (ev m) (ev k) (ev x) K
 | .call c =>
  match c.callee with
  | .builtin .append =>
   match c.args.toList, c.argTypes.toList with
   | [s, x], [t0, t1] => appB P Γ σ t0 t1 (ev s) (ev x) K
   | _, _ => False
  | .builtin .copy =>
   match c.args.toList, c.argTypes.toList with
   | [s, x], [t0, t1] => copB P Γ σ t0 t1 (ev s) (ev x) K
   | _, _ => False
  | .builtin .unsafeString =>
   match c.args.toList with
   | [s, x] => strB P Γ σ c.argTypes (ev s) (ev x) K
   | _ => False
  | .value f => callB P Γ (ev f) (c.args.toList.map ev) σ K
  | _ => dopW P Lf pure ev op (fun r => K r σ)
 | _ => dopW P Lf pure ev op (fun r => K r σ)
theorem aopW_aop {P : Program} {Lf : TypeId → List LeafK} {Γ : Glob} {pu : Bool} {ev : Operand → AV} {σ : Sig} {op : Op} {K : AV → Sig → Prop} (h : aopW P Lf Γ pu ev σ op K) : aop P Lf Γ pu ev σ op K := by
 have det : ∀ op, (∀ K, aopW P Lf Γ pu ev σ op K = dopW P Lf pu ev op (fun r => K r σ)) → (∀ K, aop P Lf Γ pu ev σ op K = dop P Lf pu ev op (fun r => K r σ)) → aopW P Lf Γ pu ev σ op K → aop P Lf Γ pu ev σ op K := fun op e e' h => by rw [e] at h; rw [e']; exact dopW_dop h
 cases op <;> (try exact det _ (fun _ => rfl) (fun _ => rfl) h)
 case lookup => exact h
 case mapUpdate => exact h
 case alloc t =>
  obtain ⟨k, h1, h⟩ := optB_iff.1 h
  exact ⟨k, h1, h⟩
 case box t x =>
  simp only [aop]
  cases pu with
  | true =>
   simp only [if_true]
   obtain ⟨cs, h1, h⟩ := optB_iff.1 (h.1 rfl)
   exact ⟨rfl, cs, h1, h⟩
  | false =>
   simp only [Bool.false_eq_true, if_false]
   obtain ⟨cs, h1, h⟩ := optB_iff.1 (h.2 rfl)
   exact ⟨cs, h1, h⟩
 case buildSlice t n ps =>
  obtain ⟨⟨a, e⟩, h1, q1⟩ := optB_iff.1 h
  obtain ⟨k, h2, ⟨g1, g2, g3, g4, g5⟩, q2⟩ := optB_iff.1 q1
  obtain ⟨cs, h3, q3⟩ := optB_iff.1 q2
  obtain rfl : a = none := g1
  simp only [aop]
  cases pu with
  | true =>
   simp only [if_true]
   exact ⟨rfl, e, k, cs, h1, h2, g2, g3, g4, g5, h3, q3.1 rfl⟩
  | false =>
   simp only [Bool.false_eq_true, if_false]
   exact ⟨e, k, cs, h1, h2, g2, g3, g4, g5, h3, q3.2 rfl⟩
 case load t a =>
  simp only [aopW] at h
  simp only [aop]
  generalize ev a = A at h ⊢
  split at h
  ·obtain ⟨k, h1, h⟩ := optB_iff.1 h
   obtain ⟨r, h2, h⟩ := optB_iff.1 h
   exact ⟨k, r, h1, h2, h⟩
  ·obtain ⟨k, h1, h⟩ := optB_iff.1 h
   obtain ⟨q, h2, h⟩ := optB_iff.1 h
   obtain ⟨r, h3, h⟩ := optB_iff.1 h
   exact ⟨k, q, r, h1, h2, h3, h⟩
  ·exact h.elim
 case store t a x =>
  simp only [aopW] at h
  simp only [aop]
  generalize ev a = A at h ⊢
  split at h
  ·obtain ⟨k, h1, h⟩ := optB_iff.1 h
   obtain ⟨xs, h2, h⟩ := optB_iff.1 h
   obtain ⟨q, h3, ⟨g1, g2, g3⟩, h⟩ := optB_iff.1 h
   exact ⟨k, xs, q, h1, h2, g1, g2, h3, g3, h⟩
  ·exact h.elim
 case makeSlice t l c =>
  simp only [aopW] at h
  simp only [aop]
  generalize ev l = L at h ⊢
  generalize ev c = C at h ⊢
  split at h
  ·obtain ⟨⟨a, e⟩, h1, q1⟩ := optB_iff.1 h
   obtain ⟨k, h2, ⟨g1, g2, g3⟩, ⟨g4, g5, g6, g7⟩, q2⟩ := optB_iff.1 q1
   obtain rfl : a = none := g1
   exact ⟨e, k, h1, h2, g2, g3, g4, g5, g6, g7, q2⟩
  ·exact h.elim
 case makeMap t x =>
  cases x with
  | none => exact h
  | some x => exact det _ (fun _ => rfl) (fun _ => rfl) h
 case range t x =>
  simp only [aopW] at h
  simp only [aop]
  generalize ev x = X at h ⊢
  split at h
  ·exact h
  ·exact h.elim
 case next it b =>
  cases b with
  | false => exact det _ (fun _ => rfl) (fun _ => rfl) h
  | true =>
   simp only [aopW] at h
   simp only [aop]
   generalize ev it = X at h ⊢
   split at h
   ·obtain ⟨q, h1, h⟩ := optB_iff.1 h
    exact ⟨q.1, q.2, iterOf_some h1, fun hh => h.2 (by simpa using hh), fun hh => h.1 (by simpa using hh)⟩
   ·exact h.elim
 case call c =>
  simp only [aopW] at h
  simp only [aop]
  cases hc : c.callee with
  | value f => rw [hc] at h; exact h
  | builtin b =>
   rw [hc] at h
   cases b <;> dsimp only at h ⊢ <;> first
    | exact h
    | exact dopW_dop h
  | _ => rw [hc] at h; exact dopW_dop h
def aopDW (p : Par) (f : Bool) (pu : Bool) (ev : Operand → AV) (σ : Sig) (op : Op) (K : AV → Sig → Prop) : Prop :=
 match f with
 | false =>
  match op with
  | .call c =>
   match c.callee with
   | .value fo => match pu with
    | true => aopW p.P p.Lf p.Γ true ev σ (.call c) K
    | false => ocallB p.P p.Γ (ev fo) (c.args.toList.map ev) σ K
   | _ => aopW p.P p.Lf p.Γ pu ev σ (.call c) K
  | op => aopW p.P p.Lf p.Γ pu ev σ op K
 | true =>
  match op with
  | .load t a =>
   match ev a with
   | .pp cs off => optB (tkOf p.P t) fun k => optB (k.part cs off) fun r => K r σ
   | _ => False
  | .call c =>
   match c.callee with
   | .value fo => match pu with
    | true => dcallB p.P p.Γ (ev fo) (c.args.toList.map ev) σ K
    | false => rcallB p.P p.Γ (ev fo) (c.args.toList.map ev) σ K
   | .builtin .append =>
    match c.args.toList, c.argTypes.toList with
    | [s, x], [t0, t1] => rappB p.P p.Γ σ t0 t1 (ev s) (ev x) K
    | _, _ => False
   | _ => aopW p.P p.Lf p.Γ pu ev σ (.call c) K
  | .lookup t m k ok => rlookB p.P p.Γ σ t ok (ev m) (ev k) K
  | op => aopW p.P p.Lf p.Γ pu ev σ op K
theorem aopDW_aopD {p : Par} {f pu : Bool} {ev : Operand → AV} {σ : Sig} {op : Op} {K : AV → Sig → Prop} (h : aopDW p f pu ev σ op K) : aopD p f pu ev σ op K := by
 cases f with
 | false =>
  cases op <;> (try (simp only [aopD]; exact aopW_aop h))
  case call c =>
   simp only [aopDW] at h
   simp only [aopD]
   cases hc : c.callee with
   | value f =>
    rw [hc] at h
    cases pu with
    | true => simp only [if_true]; exact aopW_aop h
    | false => simp only [Bool.false_eq_true, if_false]; exact h
   | _ => rw [hc] at h; exact aopW_aop h
 | true =>
  cases op <;> (try (simp only [aopD]; exact aopW_aop h))
  case lookup t m k ok =>
   simp only [aopD]
   obtain ⟨r, h1, h2⟩ := h
   exact ⟨r, fun σ' he K hK => aopW_aop (op := .lookup t m k ok) (h1 σ' he K hK), h2⟩
  case load t a =>
   simp only [aopDW] at h
   simp only [aopD]
   generalize ev a = A at h ⊢
   split at h
   ·obtain ⟨k, h1, h⟩ := optB_iff.1 h
    obtain ⟨r, h2, h⟩ := optB_iff.1 h
    exact ⟨k, r, h1, h2, h⟩
   ·exact h.elim
  case call c =>
   simp only [aopDW] at h
   simp only [aopD]
   cases hc : c.callee with
   | value f =>
    rw [hc] at h
    cases pu with
    | true => exact h
    | false => exact h
   | builtin b =>
    rw [hc] at h
    cases b with
    | append =>
     dsimp only at h ⊢
     split at h
     ·rename_i s x t0 t1 h1 h2
      obtain ⟨r, h3, h4⟩ := h
      refine ⟨r, fun σ' he K hk => ?_, h4⟩
      have := h3 σ' he K hk
      simp only [aop, hc, h1, h2]
      exact this
     ·exact h.elim
    | _ => exact aopW_aop h
   | _ => rw [hc] at h; exact aopW_aop h
def xcallB (P : Program) (Γ : Glob) (fv : AV) (args : List AV) (σ : Sig) (K : AV → Sig → Prop) : Prop := callB P Γ fv args σ fun r σ' => Keep1 σ σ' ∧ K r σ'
theorem xcallB_congr {P : Program} {Γ : Glob} {fv fv' : AV} {args args' : List AV} {σ σ' : Sig} {K : AV → Sig → Prop} (h0 : vis σ = σ') (h : vis fv = fv') (h' : vis args = args') : xcallB P Γ fv args σ K = xcallB P Γ fv' args' σ' K := by rw [← h0, ← h, ← h']; rfl
def aopXW (p : Par) (f x : Bool) (pu : Bool) (ev : Operand → AV) (σ : Sig) (op : Op) (K : AV → Sig → Prop) : Prop :=
 match x with
 | false => aopDW p f pu ev σ op K
 | true =>
  match op with
  | .load t a =>
   match ev a with
   | .v (.pointer (some ⟨b, off, none⟩)) => optB (tkOf p.P t) fun k => optB (rowOf (σ b)) fun q => andB (q.2.1 = 1) (optB (k.part q.1 off) fun r => K r σ)
   | _ => False
  | .call c =>
   match c.callee with
   | .value fo => xcallB p.P p.Γ (ev fo) (c.args.toList.map ev) σ K
   | _ => False
  | _ => False
theorem aopXW_aopX {p : Par} {f x pu : Bool} {ev : Operand → AV} {σ : Sig} {op : Op} {K : AV → Sig → Prop} (h : aopXW p f x pu ev σ op K) : aopX p f x pu ev σ op K := by
 cases x with
 | false => exact aopDW_aopD h
 | true =>
  cases op <;> (try exact h)
  case load t a =>
   simp only [aopXW] at h
   simp only [aopX]
   generalize ev a = A at h ⊢
   split at h
   ·obtain ⟨k, h1, h⟩ := optB_iff.1 h
    obtain ⟨q, h2, h3, h⟩ := optB_iff.1 h
    obtain ⟨r, h4, h⟩ := optB_iff.1 h
    have := rowOf_some h2 h3
    rw [h3] at this
    exact ⟨k, q.1, q.2.2.1, r, h1, this, h4, h⟩
   ·exact h.elim
def guardW (all : List Oper) (g : Option (Nat × Bool)) (ρ : Env) (run skip : Env → Prop) : Prop :=
 match g with
 | none => run ρ
 | some (j, want) =>
  match (all[j]?).bind (·.dst) with
  | none => skip ρ
  | some t =>
   match ρ t with
   | .v (.bool b) =>
    match want with
    | true => ifB b (run (upd ρ t (.v (.bool true)))) (skip (upd ρ t (.v (.bool false))))
    | false => ifB b (skip (upd ρ t (.v (.bool true)))) (run (upd ρ t (.v (.bool false))))
   | .v (.tuple ⟨[]⟩) => skip ρ
   | _ => False
theorem upd_self {α : Type} {f : Nat → α} {k : Nat} {x : α} (h : f k = x) : upd f k x = f := by
 funext i
 simp only [upd]
 split
 ·rename_i e; rw [e, h]
 ·rfl
theorem guardW_aguard {all : List Oper} {g : Option (Nat × Bool)} {ρ : Env} {run skip : Env → Prop} (h : guardW all g ρ run skip) : aguard all g ρ (run ρ) (skip ρ) := by
 unfold guardW at h
 unfold aguard
 split at h
 ·exact h
 ·rename_i j want
  dsimp only
  generalize (all[j]?).bind (·.dst) = D at h ⊢
  split at h
  ·exact h
  ·rename_i t
   dsimp only
   split at h
   ·rename_i b hb
    rw [hb]
    dsimp only
    cases want with
    | true =>
     dsimp only at h
     refine ⟨fun e => ?_, fun e => ?_⟩
     ·have := h.1 e
      rwa [upd_self (by rw [hb, e])] at this
     ·simp only [Bool.not_true] at e
      have := h.2 e
      rwa [upd_self (by rw [hb, e])] at this
    | false =>
     dsimp only at h
     refine ⟨fun e => ?_, fun e => ?_⟩
     ·have := h.2 e
      rwa [upd_self (by rw [hb, e])] at this
     ·simp only [Bool.not_false] at e
      have := h.1 e
      rwa [upd_self (by rw [hb, e])] at this
   ·rename_i hb
    rw [hb]
    exact h
   ·exact h.elim
def opsW (p : Par) (all : List Oper) : List Oper → (Env → Sig → Prop) → Env → Sig → Prop
 | [], K, ρ, σ => K ρ σ
 | ⟨d, op, _, _, _, g⟩ :: rest, K, ρ, σ =>
  guardW all g ρ (fun ρ => aopW p.P p.Lf p.Γ (!p.mz d) (aev p.Γ ρ) σ op fun r σ' => letB r fun r => opsW p all rest K (aput ρ d r) σ')
   (fun ρ => opsW p all rest K (aput ρ d (.v undef)) σ)
def dopsW (p : Par) (all : List Oper) : List Oper → List Bool → List Bool → (Env → Sig → Prop) → Env → Sig → Prop
 | [], _, _, K, ρ, σ => K ρ σ
 | ⟨d, op, _, _, _, g⟩ :: rest, fl, xl, K, ρ, σ =>
  guardW all g ρ (fun ρ => aopXW p (fl.headD false) (xl.headD false) (!p.mz d) (aev p.Γ ρ) σ op fun r σ' => letB r fun r => dopsW p all rest fl.tail xl.tail K (aput ρ d r) σ')
   (fun ρ => dopsW p all rest fl.tail xl.tail K (aput ρ d (.v undef)) σ)
theorem opsW_aops {p : Par} {all : List Oper} {K : Env → Sig → Prop} : ∀ (l : List Oper) (ρ : Env) (σ : Sig), opsW p all l K ρ σ → aops p all l K ρ σ
 | [], _, _, h => h
 | o :: l, ρ, σ, h => aguard_mono (fun h => aop_mono (fun r σ' h => opsW_aops l _ _ h) (aopW_aop h)) (fun h => opsW_aops l _ _ h) (guardW_aguard h)
theorem dopsW_adops {p : Par} {all : List Oper} {K : Env → Sig → Prop} : ∀ (l : List Oper) (fl xl : List Bool) (ρ : Env) (σ : Sig), dopsW p all l fl xl K ρ σ → adops p all l fl xl K ρ σ
 | [], _, _, _, _, h => h
 | o :: l, fl, xl, ρ, σ, h => aguard_mono (fun h => aopX_mono (fun r σ' h => dopsW_adops l fl.tail xl.tail _ _ h) (aopXW_aopX h)) (fun h => dopsW_adops l fl.tail xl.tail _ _ h) (guardW_aguard h)
def frzB (l : List Bool) (ρ : Env) (σ : Sig) (K : Env → Sig → Prop) : Prop :=
 match l with
 | [] => K ρ σ
 | _ :: _ => ∃ ρ' σ', Drop σ σ' ∧ (∀ t, Fz σ σ' (ρ t) (ρ' t)) ∧ K ρ' σ'
theorem frzB_congr {l l' : List Bool} {ρ : Env} {σ : Sig} {K : Env → Sig → Prop} (h : vis l = l') : frzB l ρ σ K = frzB l' ρ σ K := by rw [← h]; rfl
theorem SemC.freeze {p : Par} {ro : Option Nat} {N : Nat} {c : Code} {Q : Post} {ρ ρ' : Env} {σ σ' : Sig} {ds : List Nat} (hd : Drop σ σ') (hf : ∀ t, Fz σ σ' (ρ t) (ρ' t)) (h : SemC p ro N c Q ρ' σ' ds) : SemC p ro N c Q ρ σ ds :=
 fun a w r ha hn hds => wpIn_mono (h a w (r.drop hd) ⟨fun t => (hf t).rep r hd (ha.slot t)⟩ hn hds) fun e a' w' hp => hp.ext (hd.ext w)
theorem SemC.frz {p : Par} {ro : Option Nat} {N : Nat} {c : Code} {Q : Post} {ρ : Env} {σ : Sig} {ds : List Nat} {l : List Bool} {K : Env → Sig → Prop} (h : frzB l ρ σ K) (hk : ∀ ρ σ, K ρ σ → SemC p ro N c Q ρ σ ds) : SemC p ro N c Q ρ σ ds := by
 cases l with
 | nil => exact hk _ _ h
 | cons b l =>
  obtain ⟨ρ', σ', h1, h2, h3⟩ := h
  exact (hk _ _ h3).freeze h1 h2
theorem frzB_ptr {x : Bool} {l : List Bool} {ρ : Env} {σ : Sig} {K : Env → Sig → Prop} (t b : Nat) {cs : List AV} {s c : Nat} (h : ρ t = .v (.pointer (some ⟨b, 0, none⟩))) (hb : σ b = some (.row cs s c)) (hk : K (upd ρ t (.pp cs 0)) (ers σ b)) : frzB (x :: l) ρ σ K :=
 ⟨_, _, Drop.ers σ b, fun i => by
  by_cases hi : i = t
  ·subst hi
   rw [h, upd_same]
   exact .ptr hb (ers_same _ _) (.refl _)
  ·rw [upd_ne _ _ _ _ hi]
   exact .refl _, hk⟩
def codeW (p : Par) (ro : Option Nat) (N : Nat) : Code → Post → Env → Sig → List Nat → Prop
 | .skip, Q, ρ, σ, ds => Q .normal ρ σ ds
 | .label _, Q, ρ, σ, ds => Q .normal ρ σ ds
 | .region id ops draw, Q, ρ, σ, ds =>
  match draw with
  | true => frzB (p.fl (id + 1000000)) ρ σ fun ρ σ => dopsW p ops.toList ops.toList (p.fl id) (p.fl (id + 2000000)) (fun ρ σ => Q .normal ρ σ ds) ρ σ
  | false => frzB (p.fl (id + 1000000)) ρ σ fun ρ σ => opsW p ops.toList ops.toList (fun ρ σ => Q .normal ρ σ ds) ρ σ
 | .seq a b, Q, ρ, σ, ds => codeW p ro N a (athen (codeW p ro N b Q) Q) ρ σ ds
 | .cond c x y, Q, ρ, σ, ds =>
  match aev p.Γ ρ c with
  | .v (.bool t) => ifB t (codeW p ro N x Q ρ σ ds) (codeW p ro N y Q ρ σ ds)
  | _ => False
 | .block id c, Q, ρ, σ, ds => codeW p ro N c (ablock id Q) ρ σ ds
 | .scope c, Q, ρ, σ, ds => codeW p ro N c (anoGoto Q) ρ σ ds
 | .loop c, Q, ρ, σ, ds => SemC p ro N (.loop c) Q ρ σ ds
 | .rangeFunc f ps a b, Q, ρ, σ, ds => SemC p ro N (.rangeFunc f ps a b) Q ρ σ ds
 | .exit id, Q, ρ, σ, ds => Q (.exit id) ρ σ ds
 | .ret, Q, ρ, σ, ds => Q .ret ρ σ ds
 | .goto _, _, _, _, _ => False
 | .refuse _, _, _, _, _ => False
theorem codeW_sound {p : Par} {ro : Option Nat} {N : Nat} (hm : p.P.follows .mixedOrders = true) : ∀ (c : Code) (Q : Post) (ρ : Env) (σ : Sig) (ds : List Nat), codeOk p N c = true → codeW p ro N c Q ρ σ ds → SemC p ro N c Q ρ σ ds
 | .skip, Q, ρ, σ, ds, _, h => .skip h
 | .label _, Q, ρ, σ, ds, _, h => .label h
 | .region id ops draw, Q, ρ, σ, ds, hk, h => by
  simp only [codeOk, Bool.and_eq_true] at hk
  cases draw with
  | true => exact .frz h fun ρ σ h => .draw hm hk.1 (by simpa using hk.2) (dopsW_adops _ _ _ _ _ h)
  | false => exact .frz h fun ρ σ h => .region hk.1 (opsW_aops _ _ _ h)
 | .seq a b, Q, ρ, σ, ds, hk, h => by
  simp only [codeOk, Bool.and_eq_true] at hk
  refine .seq ((codeW_sound hm a _ ρ σ ds hk.1 h).mono fun e ρ' σ' ds' h' => ?_)
  cases e with
  | normal => exact codeW_sound hm b Q ρ' σ' ds' hk.2 h'
  | _ => exact h'
 | .cond c x y, Q, ρ, σ, ds, hk, h => by
  simp only [codeOk, Bool.and_eq_true] at hk
  simp only [codeW] at h
  split at h
  ·rename_i t hc
   exact .cond hc (fun e => codeW_sound hm x Q ρ σ ds hk.1 (h.1 e)) (fun e => codeW_sound hm y Q ρ σ ds hk.2 (h.2 e))
  ·exact h.elim
 | .block id c, Q, ρ, σ, ds, hk, h => .block (codeW_sound hm c _ ρ σ ds hk h)
 | .scope c, Q, ρ, σ, ds, hk, h => .scope (codeW_sound hm c _ ρ σ ds hk h)
 | .loop c, Q, ρ, σ, ds, _, h => h
 | .rangeFunc f ps a b, Q, ρ, σ, ds, _, h => h
 | .exit id, Q, ρ, σ, ds, _, h => .exit h
 | .ret, Q, ρ, σ, ds, _, h => .ret h
 | .goto _, _, _, _, _, _, h => h.elim
 | .refuse _, _, _, _, _, _, h => h.elim
end Go.AL
