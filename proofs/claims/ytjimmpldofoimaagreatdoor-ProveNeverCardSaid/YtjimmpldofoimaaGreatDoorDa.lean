import Derived.Test.YtjimmpldofoimaaGreatDoorAlWp
set_option linter.unusedVariables false
set_option linter.unusedSimpArgs false
namespace Go.AL
def Fun1 (D : (AV → Prop) → Prop) : Prop := ∀ K, D K → ∃ r, K r ∧ (∀ K', K' r → D K') ∧ (∀ K', D K' → K' r)
theorem fun1_conj {A : Prop} {D : (AV → Prop) → Prop} (h : Fun1 D) : Fun1 fun K => A ∧ D K := fun K ⟨a, d⟩ => by
 obtain ⟨r, h1, h2, h3⟩ := h K d
 exact ⟨r, h1, fun K' k => ⟨a, h2 K' k⟩, fun K' ⟨_, k⟩ => h3 K' k⟩
theorem fun1_ret (r : AV) : Fun1 fun K => K r := fun K h => ⟨r, h, fun _ h => h, fun _ h => h⟩
theorem fun1_false : Fun1 fun _ => False := fun _ h => h.elim
theorem fun1_ex {α : Type} {P : α → Prop} {D : α → (AV → Prop) → Prop} (hu : ∀ a b, P a → P b → a = b) (h : ∀ a, Fun1 (D a)) : Fun1 fun K => ∃ a, P a ∧ D a K := fun K ⟨a, p, d⟩ => by
 obtain ⟨r, h1, h2, h3⟩ := h a K d
 exact ⟨r, h1, fun K' k => ⟨a, p, h2 K' k⟩, fun K' ⟨b, pb, k⟩ => by obtain rfl := hu a b p pb; exact h3 K' k⟩
theorem fun1_exP {p : Prop} {D : p → (AV → Prop) → Prop} (h : ∀ a, Fun1 (D a)) : Fun1 fun K => ∃ a : p, D a K := fun K ⟨a, d⟩ => by
 obtain ⟨r, h1, h2, h3⟩ := h a K d
 exact ⟨r, h1, fun K' k => ⟨a, h2 K' k⟩, fun K' ⟨b, k⟩ => h3 K' k⟩
theorem fun1_iff {D D' : (AV → Prop) → Prop} (h : Fun1 D) (e : ∀ K, D' K ↔ D K) : Fun1 D' := by
 have : D' = D := funext fun K => propext (e K)
 rw [this]; exact h
theorem some_u {α : Type} {o : Option α} (a b : α) (h : o = some a) (k : o = some b) : a = b := Option.some.inj (h.symm.trans k)
theorem binA_fun (P : Program) (Lf : TypeId → List LeafK) (op : BinOp) (t : TypeId) (x y : AV) : Fun1 (binA P Lf op t x y) := by
 unfold binA
 cases op <;> dsimp only <;> (try exact fun1_false) <;> split <;> first
  | exact fun1_false
  | exact fun1_ret _
  | exact fun1_conj (fun1_ret _)
  | exact fun1_conj (fun1_conj (fun1_ret _))
  | exact fun1_conj (fun1_ex (fun a b => some_u a b) fun r => fun1_ret _)
theorem fun1_slice {P : Program} {t : TypeId} {D : TypeId → TK → (AV → Prop) → Prop} (h : ∀ e k, Fun1 (D e k)) : Fun1 fun K => ∃ e k, elemOf P t = some (none, e) ∧ tkOf P e = some k ∧ D e k K :=
 fun1_iff (D := fun K => ∃ e, elemOf P t = some (none, e) ∧ ∃ k, tkOf P e = some k ∧ D e k K)
  (fun1_ex (fun a b h k => by have := some_u _ _ h k; simpa using this) fun e => fun1_ex (fun a b => some_u a b) fun k => h e k)
  fun K => ⟨fun ⟨e, k, h1, h2, h3⟩ => ⟨e, h1, k, h2, h3⟩, fun ⟨e, h1, k, h2, h3⟩ => ⟨e, k, h1, h2, h3⟩⟩
theorem fun1_array {P : Program} {t : TypeId} {D : Nat → TypeId → TK → (AV → Prop) → Prop} (h : ∀ m e k, Fun1 (D m e k)) : Fun1 fun K => ∃ m e k, elemOf P t = some (some m, e) ∧ tkOf P e = some k ∧ D m e k K :=
 fun1_iff (D := fun K => ∃ q : Nat × TypeId, elemOf P t = some (some q.1, q.2) ∧ ∃ k, tkOf P q.2 = some k ∧ D q.1 q.2 k K)
  (fun1_ex (fun a b h k => by have := some_u _ _ h k; simp only [Prod.mk.injEq, Option.some.injEq] at this; exact Prod.ext this.1 this.2) fun q => fun1_ex (fun a b => some_u a b) fun k => h q.1 q.2 k)
  fun K => ⟨fun ⟨m, e, k, h1, h2, h3⟩ => ⟨⟨m, e⟩, h1, k, h2, h3⟩, fun ⟨⟨m, e⟩, h1, k, h2, h3⟩ => ⟨m, e, k, h1, h2, h3⟩⟩
theorem fun1_bnds {a b : Option Int} {D : Int → Int → (AV → Prop) → Prop} (h : ∀ l r, Fun1 (D l r)) : Fun1 fun K => ∃ l r, a = some l ∧ b = some r ∧ D l r K :=
 fun1_iff (D := fun K => ∃ l, a = some l ∧ ∃ r, b = some r ∧ D l r K)
  (fun1_ex (fun x y => some_u x y) fun l => fun1_ex (fun x y => some_u x y) fun r => h l r)
  fun K => ⟨fun ⟨l, r, h1, h2, h3⟩ => ⟨l, h1, r, h2, h3⟩, fun ⟨l, h1, r, h2, h3⟩ => ⟨l, r, h1, h2, h3⟩⟩
theorem dop_fun (P : Program) (Lf : TypeId → List LeafK) (pu : Bool) (ev : Operand → AV) (op : Op) : Fun1 (dop P Lf pu ev op) := by
 cases op <;> (try exact fun1_false) <;> unfold dop <;> (try dsimp only)
 case move x => exact fun1_ret _
 case assign x => exact fun1_ret _
 case pick c a b =>
  split
  ·rename_i t _
   intro K h
   cases t
   ·exact ⟨ev b, h.2 rfl, fun K' k => ⟨fun e => (by cases e), fun _ => k⟩, fun K' k => k.2 rfl⟩
   ·exact ⟨ev a, h.1 rfl, fun K' k => ⟨fun _ => k, fun e => (by cases e)⟩, fun K' k => k.1 rfl⟩
  ·exact fun1_false
 case build t ps =>
  refine fun1_iff (D := fun K => ∃ k, tkOf P t = some k ∧ ∃ pl, places P t = some pl ∧ ∃ cs, fillA pl k.zero (ps.toList.map fun p => (p.1, ev p.2)) = some cs ∧ K (.agg cs)) ?_ ?_
  ·exact fun1_ex (fun a b => some_u a b) fun k => fun1_ex (fun a b => some_u a b) fun pl => fun1_ex (fun a b => some_u a b) fun cs => fun1_ret _
  ·intro K
   constructor
   ·rintro ⟨k, pl, cs, h1, h2, h3, h4⟩; exact ⟨k, h1, pl, h2, cs, h3, h4⟩
   ·rintro ⟨k, h1, pl, h2, cs, h3, h4⟩; exact ⟨k, pl, cs, h1, h2, h3, h4⟩
 case buildSlice t n ps =>
  refine fun1_iff (D := fun K => pu = true ∧ ∃ e, elemOf P t = some (none, e) ∧ ∃ k, tkOf P e = some k ∧ k.size ≠ 0 ∧ n ≤ 65536 ∧ k.size ≤ 256 ∧ k.zero.length = k.size ∧ ∃ cs,
   fillA (fun i => some (i * k.size, k.size)) (List.replicate n k.zero).flatten (ps.toList.map fun p => (p.1, ev p.2)) = some cs ∧ K (litA cs n)) ?_ ?_
  ·refine fun1_conj (fun1_ex (fun a b h k => by have := some_u _ _ h k; simpa using this) fun e => fun1_ex (fun a b => some_u a b) fun k => fun1_conj (fun1_conj (fun1_conj (fun1_conj (fun1_ex (fun a b => some_u a b) fun cs => fun1_ret _)))))
  ·intro K
   constructor
   ·rintro ⟨h0, e, k, cs, h1, h2, h3, h4, h5, h6, h7, h8⟩; exact ⟨h0, e, h1, k, h2, h3, h4, h5, h6, cs, h7, h8⟩
   ·rintro ⟨h0, e, h1, k, h2, h3, h4, h5, h6, cs, h7, h8⟩; exact ⟨h0, e, k, cs, h1, h2, h3, h4, h5, h6, h7, h8⟩
 case box t x => exact fun1_conj (fun1_ex (fun a b => some_u a b) fun cs => fun1_ret _)
 case nilCheck x => split <;> first | exact fun1_false | exact fun1_ret _
 case binOp op t x y yt => exact binA_fun P Lf op t (ev x) (ev y)
 case unOp o t x => cases o <;> dsimp only <;> first | exact fun1_false | (split <;> first | exact fun1_false | exact fun1_ret _)
 case convert s d x =>
  split
  ·refine fun1_conj ?_
   split <;> first | exact fun1_false | exact fun1_ret _
  ·exact fun1_conj (fun1_conj (fun1_ret _))
  ·exact fun1_false
 case makeFunc f a b => exact fun1_ret _
 case fieldAddr t x f =>
  refine fun1_iff (D := fun K => ∃ fs, fieldsOf P t = some fs ∧ ∃ fd, fs[f]? = some fd ∧ ∃ k, tkOf P fd.type = some k ∧ k.size ≠ 0 ∧
   match ev x with
   | .v (.pointer (some ⟨b, off, none⟩)) => K (.v (.pointer (some ⟨b, off + fd.offset, none⟩)))
   | .pp cs off => K (.pp cs (off + fd.offset))
   | _ => False) ?_ ?_
  ·refine fun1_ex (fun a b => some_u a b) fun fs => fun1_ex (fun a b => some_u a b) fun fd => fun1_ex (fun a b => some_u a b) fun k => fun1_conj ?_
   split <;> first | exact fun1_false | exact fun1_ret _
  ·intro K
   constructor
   ·rintro ⟨fs, fd, k, h1, h2, h3, h4, h5⟩; exact ⟨fs, h1, fd, h2, k, h3, h4, h5⟩
   ·rintro ⟨fs, h1, fd, h2, k, h3, h4, h5⟩; exact ⟨fs, fd, k, h1, h2, h3, h4, h5⟩
 case field t x f =>
  refine fun1_iff (D := fun K => ∃ fs, fieldsOf P t = some fs ∧ ∃ fd, fs[f]? = some fd ∧ ∃ k, tkOf P fd.type = some k ∧
   match ev x with
   | .agg cs => ∃ r, k.part cs fd.offset = some r ∧ K r
   | _ => False) ?_ ?_
  ·refine fun1_ex (fun a b => some_u a b) fun fs => fun1_ex (fun a b => some_u a b) fun fd => fun1_ex (fun a b => some_u a b) fun k => ?_
   split <;> first | exact fun1_false | exact fun1_ex (fun a b => some_u a b) fun r => fun1_ret _
  ·intro K
   constructor
   ·rintro ⟨fs, fd, k, h1, h2, h3, h4⟩; exact ⟨fs, h1, fd, h2, k, h3, h4⟩
   ·rintro ⟨fs, h1, fd, h2, k, h3, h4⟩; exact ⟨fs, fd, k, h1, h2, h3, h4⟩
 case index t x i =>
  split
  ·exact fun1_array fun m e k => fun1_conj (fun1_conj (fun1_ex (fun a b => some_u a b) fun r => fun1_ret _))
  ·exact fun1_conj (fun1_conj (fun1_exP fun h => fun1_ret _))
  ·exact fun1_false
 case indexAddr t x i =>
  split
  ·split
   ·exact fun1_slice fun e k => fun1_conj (fun1_conj (fun1_ret _))
   ·exact fun1_slice fun e k => fun1_conj (fun1_conj (fun1_conj (fun1_ret _)))
   ·exact fun1_array fun m e k => fun1_conj (fun1_conj (fun1_ret _))
   ·exact fun1_array fun m e k => fun1_conj (fun1_conj (fun1_ret _))
   ·exact fun1_false
  ·exact fun1_false
 case slice t x lo hi mx =>
  split
  ·exact fun1_conj (fun1_conj (fun1_bnds fun l h => fun1_conj (fun1_conj (fun1_conj (fun1_ret _)))))
  ·rename_i cs n _
   refine fun1_iff (D := fun K => ∃ e k, elemOf P t = some (none, e) ∧ tkOf P e = some k ∧ ∃ l h, bnd ev 0 lo = some l ∧ bnd ev n hi = some h ∧ 0 ≤ l ∧ l ≤ h ∧ h ≤ n ∧
    match mx with
    | none => K (.sl ((cs.drop (l.toNat * k.size)).take ((h.toNat - l.toNat) * k.size)) (h.toNat - l.toNat))
    | some m => hi ≠ none ∧ ∃ m', bnd ev 0 (some m) = some m' ∧ h ≤ m' ∧ m' ≤ n ∧ (m' = l → K .e0) ∧ (m' ≠ l → K (.sl ((cs.drop (l.toNat * k.size)).take ((h.toNat - l.toNat) * k.size)) (h.toNat - l.toNat)))) ?_ ?_
   ·refine fun1_slice fun e k => fun1_bnds fun l h => fun1_conj (fun1_conj (fun1_conj ?_))
    cases mx with
    | none => exact fun1_ret _
    | some m =>
     refine fun1_conj (fun1_ex (fun a b => some_u a b) fun m' => fun1_conj (fun1_conj ?_))
     intro K hK
     by_cases e : m' = l
     ·exact ⟨_, hK.1 e, fun K' k => ⟨fun _ => k, fun ne => absurd e ne⟩, fun K' k => k.1 e⟩
     ·exact ⟨_, hK.2 e, fun K' k => ⟨fun ee => absurd ee e, fun _ => k⟩, fun K' k => k.2 e⟩
   ·intro K
    constructor
    ·rintro ⟨e, k, l, h, h1, h2, h3, h4, h5⟩; exact ⟨e, k, h1, h2, l, h, h3, h4, h5⟩
    ·rintro ⟨e, k, h1, h2, l, h, h3, h4, h5⟩; exact ⟨e, k, l, h, h1, h2, h3, h4, h5⟩
  ·rename_i b s off n _
   refine fun1_iff (D := fun K => ∃ e k, elemOf P t = some (none, e) ∧ tkOf P e = some k ∧ k.size = s ∧ ∃ l h, bnd ev 0 lo = some l ∧ bnd ev n hi = some h ∧ 0 ≤ l ∧ l ≤ h ∧ h ≤ n ∧
    match mx with
    | none => K (.own b s (off + l.toNat) (h.toNat - l.toNat))
    | some m => hi ≠ none ∧ bnd ev 0 (some m) = some l ∧ h = l ∧ K .e0) ?_ ?_
   ·refine fun1_slice fun e k => fun1_conj (fun1_bnds fun l h => fun1_conj (fun1_conj (fun1_conj ?_)))
    cases mx with
    | none => exact fun1_ret _
    | some m => exact fun1_conj (fun1_conj (fun1_conj (fun1_ret _)))
   ·intro K
    constructor
    ·rintro ⟨e, k, l, h, h1, h2, h3, h4, h5, h6⟩; exact ⟨e, k, h1, h2, h3, l, h, h4, h5, h6⟩
    ·rintro ⟨e, k, h1, h2, h3, l, h, h4, h5, h6⟩; exact ⟨e, k, l, h, h1, h2, h3, h4, h5, h6⟩
  ·exact fun1_slice fun e k => fun1_conj (fun1_conj (fun1_conj (fun1_ret _)))
  ·exact fun1_slice fun e k => fun1_conj (fun1_conj (fun1_conj (fun1_ret _)))
  ·exact fun1_false
 case extract x i => split <;> first | exact fun1_false | exact fun1_ex (fun a b => some_u a b) fun r => fun1_ret _
 case call c =>
  split
  ·split <;> first | exact fun1_false | exact fun1_conj (fun1_ret _)
  ·split <;> first | exact fun1_false | exact fun1_conj (fun1_ret _)
  ·split <;> first | exact fun1_false | exact fun1_ret _
  ·split <;> first | exact fun1_false | exact fun1_ret _
  ·split <;> first | exact fun1_false | exact fun1_conj (fun1_ret _)
  ·exact fun1_false
theorem bnd_congr {ev ev' : Operand → AV} (d : Int) (o : Option Operand) (h : ∀ x, o = some x → ev x = ev' x) : bnd ev d o = bnd ev' d o := by
 cases o with
 | none => rfl
 | some x => simp only [bnd, h x rfl]
theorem parts_congr {ev ev' : Operand → AV} (ps : Array (Nat × Operand)) (h : ∀ p ∈ ps.toList, ev p.2 = ev' p.2) : (ps.toList.map fun p => (p.1, ev p.2)) = ps.toList.map fun p => (p.1, ev' p.2) :=
 List.map_congr_left fun p hp => by rw [h p hp]
theorem dop_congr {P : Program} {Lf : TypeId → List LeafK} {pu : Bool} {ev ev' : Operand → AV} {op : Op} (h : ∀ x ∈ op.operands.toList, ev x = ev' x) (K : AV → Prop) : dop P Lf pu ev op K = dop P Lf pu ev' op K := by
 cases op <;> (try rfl) <;> simp only [Op.operands] at h
 case move x => simp only [dop, h x (by simp)]
 case assign x => simp only [dop, h x (by simp)]
 case pick c a b => simp only [dop, h c (by simp), h a (by simp), h b (by simp)]
 case build t ps => simp only [dop, parts_congr ps (fun p hp => h p.2 (by simp; exact ⟨p.1, by simpa using hp⟩))]
 case buildSlice t n ps => simp only [dop, parts_congr ps (fun p hp => h p.2 (by simp; exact ⟨p.1, by simpa using hp⟩))]
 case box t x => simp only [dop, h x (by simp)]
 case nilCheck x => simp only [dop, h x (by simp)]
 case binOp op t x y yt => simp only [dop, h x (by simp), h y (by simp)]
 case unOp o t x => cases o <;> simp only [dop, h x (by simp)]
 case convert s d x => simp only [dop, h x (by simp)]
 case makeFunc f a b =>
  have e1 : a.toList.map ev = a.toList.map ev' := List.map_congr_left fun x hx => h x (by simp; exact .inl (by simpa using hx))
  have e2 : b.toList.map ev = b.toList.map ev' := List.map_congr_left fun x hx => h x (by simp; exact .inr (by simpa using hx))
  simp only [dop, e1, e2]
 case fieldAddr t x f => simp only [dop, h x (by simp)]
 case field t x f => simp only [dop, h x (by simp)]
 case index t x i => simp only [dop, h x (by simp), h i (by simp)]
 case indexAddr t x i => simp only [dop, h x (by simp), h i (by simp)]
 case slice t x lo hi mx =>
  have hl : ∀ d, bnd ev d lo = bnd ev' d lo := fun d => bnd_congr d lo fun y e => h y (by subst e; simp)
  have hh : ∀ d, bnd ev d hi = bnd ev' d hi := fun d => bnd_congr d hi fun y e => h y (by subst e; simp)
  have hm : ∀ d, bnd ev d mx = bnd ev' d mx := fun d => bnd_congr d mx fun y e => h y (by subst e; simp)
  cases mx with
  | none => simp only [dop, h x (by simp), hl, hh, hm]
  | some m => simp only [dop, h x (by simp), hl, hh, hm]
 case extract x i => simp only [dop, h x (by simp)]
 case call c =>
  have hx : ∀ x ∈ c.args.toList, ev x = ev' x := fun x hx => h x (by simp [Call.operands]; exact .inr (by simpa using hx))
  simp only [dop]
  generalize hl : c.args.toList = l at hx
  split <;> (try rfl)
  ·rw [hx _ (by simp)]
  ·rw [hx _ (by simp)]
  ·rename_i x y _; rw [hx x (by simp), hx y (by simp)]
  ·rename_i x y _; rw [hx x (by simp), hx y (by simp)]
  ·rw [hx _ (by simp)]
theorem aop_congr {P : Program} {Lf : TypeId → List LeafK} {Γ : Glob} {pu : Bool} {ev ev' : Operand → AV} {σ : Sig} {op : Op} (h : ∀ x ∈ op.operands.toList, ev x = ev' x) (K : AV → Sig → Prop) : aop P Lf Γ pu ev σ op K = aop P Lf Γ pu ev' σ op K := by
 have hd : ∀ (q : Bool) (K : AV → Prop), dop P Lf q ev op K = dop P Lf q ev' op K := fun q K => dop_congr h K
 cases op <;> (try exact hd pu (fun r => K r σ)) <;> simp only [Op.operands] at h
 case alloc t => rfl
 case box t x => simp only [aop, h x (by simp), hd]
 case buildSlice t n ps => simp only [aop, parts_congr ps (fun p hp => h p.2 (by simp; exact ⟨p.1, by simpa using hp⟩)), hd]
 case load t a => simp only [aop, h a (by simp)]
 case store t a x => simp only [aop, h a (by simp), h x (by simp)]
 case makeMap t r => cases r <;> first | rfl | exact hd pu (fun r => K r σ)
 case makeSlice t l c => simp only [aop, h l (by simp), h c (by simp)]
 case range t x => simp only [aop, h x (by simp)]
 case lookup t m k ok => simp only [aop, h m (by simp), h k (by simp)]
 case mapUpdate t m k x => simp only [aop, h m (by simp), h k (by simp), h x (by simp)]
 case next it b => cases b <;> simp only [aop, h it (by simp)] <;> exact hd pu (fun r => K r σ)
 case call c =>
  have hx : ∀ x ∈ c.args.toList, ev x = ev' x := fun x hx => h x (by simp [Call.operands]; exact .inr (by simpa using hx))
  simp only [aop]
  generalize hl : c.args.toList = l at hx
  split
  ·split <;> (try rfl)
   rename_i s x _ _ _; rw [hx s (by simp), hx x (by simp)]
  ·split <;> (try rfl)
   rename_i s x _ _ _; rw [hx s (by simp), hx x (by simp)]
  ·split <;> (try rfl)
   rename_i s x; rw [hx s (by simp), hx x (by simp)]
  ·rename_i f hc
   rw [h f (by simp [Call.operands, hc]), List.map_congr_left hx]
  ·exact hd pu (fun r => K r σ)
abbrev Stp := Sig → (AV → Sig → Prop) → Prop
def ClsD (S : Stp) : Prop := (∀ σ K, ¬ S σ K) ∨ ∃ r, ∀ σ K, S σ K ↔ K r σ
def ClsC (S : Stp) : Prop := ∃ R : AV → Prop, ∀ σ K, S σ K ↔ ∃ r, R r ∧ K r σ
def ClsL (S : Stp) : Prop := ∃ F : Sig → AV → Prop, (∀ σ K, S σ K ↔ ∃ r, F σ r ∧ K r σ) ∧ ∀ σ b x r, σ b = none → F σ r → F (upd σ b x) r
def ClsL0 (S : Stp) : Prop := ∃ F : Sig → Option AV, (∀ σ K, S σ K ↔ ∃ r, F σ = some r ∧ K r σ) ∧ ∀ σ b x r, σ b = none → F σ = some r → F (upd σ b x) = some r
theorem ClsL0.to {S : Stp} (h : ClsL0 S) : ClsL S := by
 obtain ⟨F, h1, h2⟩ := h
 exact ⟨fun σ r => F σ = some r, h1, h2⟩
def ClsR (S : Stp) : Prop := ∃ F : Sig → AV → Prop, ∀ σ K, S σ K ↔ ∃ r, F σ r ∧ K r σ
def Keep1 (σ σ' : Sig) : Prop := ∀ b cs c, σ b = some (.row cs 1 c) → σ' b = some (.row cs 1 c)
theorem Keep1.refl (σ : Sig) : Keep1 σ σ := fun _ _ _ h => h
def ClsV (S : Stp) : Prop := ∃ F : Sig → AV → Prop, (∀ σ K, S σ K ↔ ∃ r, F σ r ∧ K r σ) ∧ (∀ σ b x r, σ b = none → F σ r → F (upd σ b x) r) ∧ ∀ σ σ' r, Keep1 σ σ' → F σ r → F σ' r
def ClsX (S : Stp) : Prop := ∀ σ K, S σ K → S σ fun r σ' => Keep1 σ σ' ∧ K r σ'
def Made (σ : Sig) (s : Nat) (cs : List AV) (n : Nat) (a : AV) (σ' : Sig) : Prop :=
 ((a = .v (.slice none 0 0) ∨ a = .e0) ∧ cs = [] ∧ n = 0 ∧ σ' = σ) ∨ ∃ b c, σ b = none ∧ a = .own b s 0 n ∧ σ' = upd σ b (some (.row cs s c)) ∧ cs.length = n * s
def ClsN (S : Stp) : Prop := ∃ R : Nat → List AV → Nat → Prop, (∀ s cs n, R s cs n → cs.length = n * s) ∧ ∀ σ K, S σ K ↔ ∃ s cs n, R s cs n ∧ ∀ a σ', Made σ s cs n a σ' → K a σ'
def ClsA (S : Stp) : Prop := (∀ σ K, ¬ S σ K) ∨ ∃ (f : Nat → AV) (g : Nat → Blk), ∀ σ K, S σ K ↔ ∀ b, σ b = none → K (f b) (upd σ b (some (g b)))
def Mono (S : Stp) : Prop := ∀ σ K K', (∀ r σ', K r σ' → K' r σ') → S σ K → S σ K'
inductive Kd where
 | D | C | L | R | N | A | V | X | W
 deriving DecidableEq
def Cls : Kd → Stp → Prop
 | .D, S => ClsD S
 | .C, S => ClsC S
 | .L, S => ClsL S
 | .R, S => ClsR S
 | .N, S => ClsN S
 | .A, S => ClsA S
 | .V, S => ClsV S
 | .X, S => ClsX S
 | .W, S => True
def pairOk : Kd → Kd → Bool
 | .D, _ => true
 | _, .D => true
 | .C, _ => true
 | .L, .C | .L, .L | .L, .R | .L, .A | .L, .V => true
 | .R, .C | .R, .L | .R, .R | .R, .V => true
 | .V, .C | .V, .L | .V, .R | .V, .A | .V, .V | .V, .X => true
 | .A, .A => true
 | .N, .A => true
 | _, _ => false
def FinS (σ : Sig) : Prop := ∃ n, ∀ b, n ≤ b → σ b = none
theorem FinS.upd {σ : Sig} (h : FinS σ) (b : Nat) (x : Option Blk) : FinS (AL.upd σ b x) := by
 obtain ⟨n, h⟩ := h
 exact ⟨max n (b + 1), fun k hk => by rw [upd_ne _ _ _ _ (by omega)]; exact h k (by omega)⟩
theorem FinS.free {σ : Sig} (h : FinS σ) : ∃ b, σ b = none := by obtain ⟨n, h⟩ := h; exact ⟨n, h n (Nat.le_refl _)⟩
def seqS (S : Nat → Env → Stp) (put : Nat → Env → AV → Env) : List Nat → (Env → Sig → Prop) → Env → Sig → Prop
 | [], K, ρ, σ => K ρ σ
 | i :: l, K, ρ, σ => S i ρ σ fun r σ' => seqS S put l K (put i ρ r) σ'
structure Indep (S : Nat → Env → Stp) (put : Nat → Env → AV → Env) (i j : Nat) : Prop where
 left : ∀ ρ r, S i (put j ρ r) = S i ρ
 right : ∀ ρ r, S j (put i ρ r) = S j ρ
 comm : ∀ ρ r s, put i (put j ρ r) s = put j (put i ρ s) r
section
variable {S : Nat → Env → Stp} {put : Nat → Env → AV → Env}
theorem pull_D (hm : ∀ i ρ, Mono (S i ρ)) {j : Nat} {r : AV} {K : Env → Sig → Prop} {post : List Nat} : ∀ (pre : List Nat), (∀ i ∈ pre, Indep S put i j) → ∀ ρ σ, (∀ σ K, S j ρ σ K ↔ K r σ) → seqS S put (pre ++ j :: post) K ρ σ → seqS S put (pre ++ post) K (put j ρ r) σ
 | [], _, ρ, σ, hr, h => (hr σ _).1 h
 | i :: pre, hi, ρ, σ, hr, h => by
  have hij := hi i (by simp)
  simp only [List.cons_append, seqS] at h ⊢
  rw [hij.left]
  refine hm i ρ σ _ _ (fun s σ' hh => ?_) h
  have := pull_D hm pre (fun k hk => hi k (by simp [hk])) (put i ρ s) σ' (fun σ K => by rw [hij.right]; exact hr σ K) hh
  rwa [hij.comm]
theorem pull_N (hm : ∀ i ρ, Mono (S i ρ)) (kd : Nat → Kd) (hc : ∀ i ρ, Cls (kd i) (S i ρ)) {j : Nat} (hj : kd j ≠ .D) {K : Env → Sig → Prop} {post : List Nat} : ∀ (pre : List Nat), (∀ i ∈ pre, Indep S put i j ∧ pairOk (kd i) (kd j) = true) → ∀ ρ σ, FinS σ →
  seqS S put (pre ++ j :: post) K ρ σ → S j ρ σ fun r σ1 => seqS S put (pre ++ post) K (put j ρ r) σ1
 | [], _, ρ, σ, _, h => h
 | i :: pre, hi, ρ, σ, hfin, h => by
  obtain ⟨hij, hp⟩ := hi i (by simp)
  have hpre := fun k (hk : k ∈ pre) => hi k (by simp [hk])
  simp only [List.cons_append, seqS] at h ⊢
  have hcl := hc i ρ
  have hcj := hc j ρ
  cases hki : kd i with
  | D =>
   rw [hki] at hcl
   rcases hcl with hn | ⟨ri, hri⟩
   ·exact absurd h (hn _ _)
   ·have ih := pull_N hm kd hc hj pre hpre (put i ρ ri) σ hfin ((hri σ _).1 h)
    rw [hij.right] at ih
    refine hm j ρ σ _ _ (fun r σ1 hh => ?_) ih
    rw [hij.left]
    refine (hri σ1 _).2 ?_
    rw [hij.comm]; exact hh
  | C =>
   rw [hki] at hcl
   obtain ⟨R, hR⟩ := hcl
   obtain ⟨ri, hri, h'⟩ := (hR σ _).1 h
   have ih := pull_N hm kd hc hj pre hpre (put i ρ ri) σ hfin h'
   rw [hij.right] at ih
   refine hm j ρ σ _ _ (fun r σ1 hh => ?_) ih
   rw [hij.left]
   refine (hR σ1 _).2 ⟨ri, hri, ?_⟩
   rw [hij.comm]; exact hh
  | L =>
   rw [hki] at hcl hp
   obtain ⟨F, hF, hFu⟩ := hcl
   obtain ⟨ri, hri, h'⟩ := (hF σ _).1 h
   have ih := pull_N hm kd hc hj pre hpre (put i ρ ri) σ hfin h'
   rw [hij.right] at ih
   cases hkj : kd j with
   | D => exact absurd hkj hj
   | C =>
    rw [hkj] at hcj
    obtain ⟨R, hR⟩ := hcj
    obtain ⟨r, hr, hh⟩ := (hR σ _).1 ih
    refine (hR σ _).2 ⟨r, hr, ?_⟩
    rw [hij.left]
    exact (hF σ _).2 ⟨ri, hri, by rw [hij.comm]; exact hh⟩
   | L =>
    rw [hkj] at hcj
    obtain ⟨G, hG, _⟩ := hcj
    obtain ⟨r, hr, hh⟩ := (hG σ _).1 ih
    refine (hG σ _).2 ⟨r, hr, ?_⟩
    rw [hij.left]
    exact (hF σ _).2 ⟨ri, hri, by rw [hij.comm]; exact hh⟩
   | R =>
    rw [hkj] at hcj
    obtain ⟨G, hG⟩ := hcj
    obtain ⟨r, hr, hh⟩ := (hG σ _).1 ih
    refine (hG σ _).2 ⟨r, hr, ?_⟩
    rw [hij.left]
    exact (hF σ _).2 ⟨ri, hri, by rw [hij.comm]; exact hh⟩
   | A =>
    rw [hkj] at hcj
    rcases hcj with hn | ⟨f, g, hA⟩
    ·exact absurd ih (hn _ _)
    ·refine (hA σ _).2 fun b hb => ?_
     rw [hij.left]
     exact (hF _ _).2 ⟨ri, hFu σ b _ ri hb hri, by rw [hij.comm]; exact (hA σ _).1 ih b hb⟩
   | V =>
    rw [hkj] at hcj
    obtain ⟨G, hG, _⟩ := hcj
    obtain ⟨r, hr, hh⟩ := (hG σ _).1 ih
    refine (hG σ _).2 ⟨r, hr, ?_⟩
    rw [hij.left]
    exact (hF σ _).2 ⟨ri, hri, by rw [hij.comm]; exact hh⟩
   | X => rw [hkj] at hp; simp [pairOk] at hp
   | N => rw [hkj] at hp; simp [pairOk] at hp
   | W => rw [hkj] at hp; simp [pairOk] at hp
  | R =>
   rw [hki] at hcl hp
   obtain ⟨F, hF⟩ := hcl
   obtain ⟨ri, hri, h'⟩ := (hF σ _).1 h
   have ih := pull_N hm kd hc hj pre hpre (put i ρ ri) σ hfin h'
   rw [hij.right] at ih
   cases hkj : kd j with
   | D => exact absurd hkj hj
   | C =>
    rw [hkj] at hcj
    obtain ⟨R, hR⟩ := hcj
    obtain ⟨r, hr, hh⟩ := (hR σ _).1 ih
    refine (hR σ _).2 ⟨r, hr, ?_⟩
    rw [hij.left]
    exact (hF σ _).2 ⟨ri, hri, by rw [hij.comm]; exact hh⟩
   | L =>
    rw [hkj] at hcj
    obtain ⟨G, hG, _⟩ := hcj
    obtain ⟨r, hr, hh⟩ := (hG σ _).1 ih
    refine (hG σ _).2 ⟨r, hr, ?_⟩
    rw [hij.left]
    exact (hF σ _).2 ⟨ri, hri, by rw [hij.comm]; exact hh⟩
   | R =>
    rw [hkj] at hcj
    obtain ⟨G, hG⟩ := hcj
    obtain ⟨r, hr, hh⟩ := (hG σ _).1 ih
    refine (hG σ _).2 ⟨r, hr, ?_⟩
    rw [hij.left]
    exact (hF σ _).2 ⟨ri, hri, by rw [hij.comm]; exact hh⟩
   | V =>
    rw [hkj] at hcj
    obtain ⟨G, hG, _⟩ := hcj
    obtain ⟨r, hr, hh⟩ := (hG σ _).1 ih
    refine (hG σ _).2 ⟨r, hr, ?_⟩
    rw [hij.left]
    exact (hF σ _).2 ⟨ri, hri, by rw [hij.comm]; exact hh⟩
   | X => rw [hkj] at hp; simp [pairOk] at hp
   | N => rw [hkj] at hp; simp [pairOk] at hp
   | A => rw [hkj] at hp; simp [pairOk] at hp
   | W => rw [hkj] at hp; simp [pairOk] at hp
  | N =>
   rw [hki] at hcl hp
   cases hkj : kd j with
   | A =>
    rw [hkj] at hcj
    obtain ⟨R, hL, hR⟩ := hcl
    obtain ⟨s, cs, n, hr, h'⟩ := (hR σ _).1 h
    have hfin2 : ∀ a σ', Made σ s cs n a σ' → FinS σ' := fun a σ' hm' => by
     rcases hm' with ⟨_, _, _, rfl⟩ | ⟨b, c, _, _, rfl, _⟩
     ·exact hfin
     ·exact hfin.upd _ _
    have ih := fun a σ' hm' => pull_N hm kd hc hj pre hpre (put i ρ a) σ' (hfin2 a σ' hm') (h' a σ' hm')
    rcases hcj with hn | ⟨f, g, hA⟩
    ·exfalso
     by_cases hx : ∃ a σ', Made σ s cs n a σ'
     ·obtain ⟨a, σ', hm'⟩ := hx
      have := ih a σ' hm'
      rw [hij.right] at this
      exact hn _ _ this
     ·obtain ⟨b, hb⟩ := hfin.free
      exact hx ⟨.own b s 0 n, _, .inr ⟨b, 0, hb, rfl, rfl, hL s cs n hr⟩⟩
    ·refine (hA σ _).2 fun b hb => ?_
     rw [hij.left]
     refine (hR _ _).2 ⟨s, cs, n, hr, fun a σ'' hm' => ?_⟩
     rcases hm' with ⟨h1, h2, h3, rfl⟩ | ⟨b1, c, h1, rfl, rfl, h3⟩
     ·have := ih a σ (.inl ⟨h1, h2, h3, rfl⟩)
      rw [hij.right] at this
      have := (hA _ _).1 this b hb
      rw [hij.comm]
      exact this
     ·have hne : b1 ≠ b := by rintro rfl; simp [upd] at h1
      have h10 : σ b1 = none := by rwa [upd_ne _ _ _ _ hne] at h1
      have := ih _ _ (.inr ⟨b1, c, h10, rfl, rfl, h3⟩)
      rw [hij.right] at this
      have := (hA _ _).1 this b (by rw [upd_ne _ _ _ _ (Ne.symm hne)]; exact hb)
      rw [hij.comm, upd_comm _ _ _ _ _ (Ne.symm hne)]
      exact this
   | D => exact absurd hkj hj
   | _ => rw [hkj] at hp; simp [pairOk] at hp
  | A =>
   rw [hki] at hcl hp
   cases hkj : kd j with
   | A =>
    rw [hkj] at hcj
    rcases hcl with hn | ⟨f, g, hA⟩
    ·exact absurd h (hn _ _)
    ·rcases hcj with hn | ⟨f', g', hA'⟩
     ·-- there is a fresh block, or none at all
      obtain ⟨b, hb⟩ := hfin.free
      have ih := pull_N hm kd hc hj pre hpre (put i ρ (f b)) _ (hfin.upd _ _) ((hA σ _).1 h b hb)
      rw [hij.right] at ih
      exact absurd ih (hn _ _)
     ·refine (hA' σ _).2 fun b' hb' => ?_
      rw [hij.left]
      refine (hA _ _).2 fun b hb => ?_
      have hne : b ≠ b' := by rintro rfl; simp [upd] at hb
      have hb0 : σ b = none := by rwa [upd_ne _ _ _ _ hne] at hb
      have ih := pull_N hm kd hc hj pre hpre (put i ρ (f b)) _ (hfin.upd _ _) ((hA σ _).1 h b hb0)
      rw [hij.right] at ih
      have := (hA' _ _).1 ih b' (by rw [upd_ne _ _ _ _ (Ne.symm hne)]; exact hb')
      rw [hij.comm, upd_comm _ _ _ _ _ (Ne.symm hne)]
      exact this
   | D => exact absurd hkj hj
   | C => rw [hkj] at hp; simp [pairOk] at hp
   | L => rw [hkj] at hp; simp [pairOk] at hp
   | R => rw [hkj] at hp; simp [pairOk] at hp
   | N => rw [hkj] at hp; simp [pairOk] at hp
   | V => rw [hkj] at hp; simp [pairOk] at hp
   | X => rw [hkj] at hp; simp [pairOk] at hp
   | W => rw [hkj] at hp; simp [pairOk] at hp
  | V =>
   rw [hki] at hcl hp
   obtain ⟨F, hF, hFu, hFk⟩ := hcl
   obtain ⟨ri, hri, h'⟩ := (hF σ _).1 h
   have ih := pull_N hm kd hc hj pre hpre (put i ρ ri) σ hfin h'
   rw [hij.right] at ih
   cases hkj : kd j with
   | D => exact absurd hkj hj
   | C =>
    rw [hkj] at hcj
    obtain ⟨R, hR⟩ := hcj
    obtain ⟨r, hr, hh⟩ := (hR σ _).1 ih
    refine (hR σ _).2 ⟨r, hr, ?_⟩
    rw [hij.left]
    exact (hF σ _).2 ⟨ri, hri, by rw [hij.comm]; exact hh⟩
   | L =>
    rw [hkj] at hcj
    obtain ⟨G, hG, _⟩ := hcj
    obtain ⟨r, hr, hh⟩ := (hG σ _).1 ih
    refine (hG σ _).2 ⟨r, hr, ?_⟩
    rw [hij.left]
    exact (hF σ _).2 ⟨ri, hri, by rw [hij.comm]; exact hh⟩
   | R =>
    rw [hkj] at hcj
    obtain ⟨G, hG⟩ := hcj
    obtain ⟨r, hr, hh⟩ := (hG σ _).1 ih
    refine (hG σ _).2 ⟨r, hr, ?_⟩
    rw [hij.left]
    exact (hF σ _).2 ⟨ri, hri, by rw [hij.comm]; exact hh⟩
   | A =>
    rw [hkj] at hcj
    rcases hcj with hn | ⟨f, g, hA⟩
    ·exact absurd ih (hn _ _)
    ·refine (hA σ _).2 fun b hb => ?_
     rw [hij.left]
     exact (hF _ _).2 ⟨ri, hFu σ b _ ri hb hri, by rw [hij.comm]; exact (hA σ _).1 ih b hb⟩
   | V =>
    rw [hkj] at hcj
    obtain ⟨G, hG, _⟩ := hcj
    obtain ⟨r, hr, hh⟩ := (hG σ _).1 ih
    refine (hG σ _).2 ⟨r, hr, ?_⟩
    rw [hij.left]
    exact (hF σ _).2 ⟨ri, hri, by rw [hij.comm]; exact hh⟩
   | X =>
    rw [hkj] at hcj
    refine hm j ρ σ _ _ (fun r σ1 hh => ?_) (hcj σ _ ih)
    rw [hij.left]
    exact (hF σ1 _).2 ⟨ri, hFk σ σ1 ri hh.1 hri, by rw [hij.comm]; exact hh.2⟩
   | N => rw [hkj] at hp; simp [pairOk] at hp
   | W => rw [hkj] at hp; simp [pairOk] at hp
  | X =>
   rw [hki] at hp
   cases hkj : kd j with
   | D => exact absurd hkj hj
   | _ => rw [hkj] at hp; simp [pairOk] at hp
  | W =>
   rw [hki] at hp
   cases hkj : kd j with
   | D => exact absurd hkj hj
   | _ => rw [hkj] at hp; simp [pairOk] at hp
end
def DCall (P : Program) (Γ : Glob) (fv : AV) (args : List AV) (r : AV) : Prop := ∀ σ K, K r σ → callOp P Γ fv args σ K
def OCall (P : Program) (Γ : Glob) (fv : AV) (args : List AV) (s : Nat) (cs : List AV) (n : Nat) : Prop := cs.length = n * s ∧ ∀ σ K, (∀ a σ', Made σ s cs n a σ' → K a σ') → callOp P Γ fv args σ K
def aopD (p : Par) (f : Bool) (pu : Bool) (ev : Operand → AV) (σ : Sig) (op : Op) (K : AV → Sig → Prop) : Prop :=
 match f, op with
 | true, .load t a =>
  match ev a with
  | .pp cs off => ∃ k r, tkOf p.P t = some k ∧ k.part cs off = some r ∧ K r σ
  | _ => False
 | true, .call c =>
  match c.callee with
  | .value fo => if pu then ∃ r, DCall p.P p.Γ (ev fo) (c.args.toList.map ev) r ∧ K r σ else ∃ r, (∀ σ', (∀ b x, σ b = some x → σ' b = some x) → ∀ K, K r σ' → callOp p.P p.Γ (ev fo) (c.args.toList.map ev) σ' K) ∧ K r σ
  | .builtin .append => ∃ r, (∀ σ', (∀ b x, σ b = some x → σ' b = some x) → ∀ K, K r σ' → aop p.P p.Lf p.Γ pu ev σ' (.call c) K) ∧ K r σ
  | _ => aop p.P p.Lf p.Γ pu ev σ (.call c) K
 | false, .call c =>
  match c.callee with
  | .value fo => if pu then aop p.P p.Lf p.Γ pu ev σ (.call c) K else ∃ s cs n, OCall p.P p.Γ (ev fo) (c.args.toList.map ev) s cs n ∧ ∀ a σ', Made σ s cs n a σ' → K a σ'
  | _ => aop p.P p.Lf p.Γ pu ev σ (.call c) K
 | true, .lookup t m k ok => ∃ r, (∀ σ', (∀ b x, σ b = some x → σ' b = some x) → ∀ K, K r σ' → aop p.P p.Lf p.Γ pu ev σ' (.lookup t m k ok) K) ∧ K r σ
 | _, op => aop p.P p.Lf p.Γ pu ev σ op K
def aopX (p : Par) (f x : Bool) (pu : Bool) (ev : Operand → AV) (σ : Sig) (op : Op) (K : AV → Sig → Prop) : Prop :=
 match x with
 | false => aopD p f pu ev σ op K
 | true =>
  match op with
  | .load t a =>
   match ev a with
   | .v (.pointer (some ⟨b, off, none⟩)) => ∃ k cs c r, tkOf p.P t = some k ∧ σ b = some (.row cs 1 c) ∧ k.part cs off = some r ∧ K r σ
   | _ => False
  | .call c =>
   match c.callee with
   | .value fo => callOp p.P p.Γ (ev fo) (c.args.toList.map ev) σ fun r σ' => Keep1 σ σ' ∧ K r σ'
   | _ => False
  | _ => False
def ostep (p : Par) (all : List Oper) (f x : Bool) (o : Oper) (ρ : Env) : Stp := fun σ K =>
 aguard all o.guard ρ (aopX p f x (!p.mz o.dst) (aev p.Γ ρ) σ o.op K) (K (.v undef) σ)
def kdOf (f x : Bool) (pu : Bool) (o : Oper) : Kd :=
 if x then
  match o.op with
  | .load _ _ => .V
  | .call c => match c.callee with | .value _ => .X | _ => .W
  | _ => .W
 else match o.op with
 | .load _ _ => if f then .D else .L
 | .call c =>
  match c.callee with
  | .value _ => if f then (if pu then .C else .L) else if pu then .W else if o.guard.isNone then .N else .W
  | .builtin .append => if f then .L else .W
  | .builtin .copy => .W
  | .builtin .unsafeString => .W
  | _ => .D
 | .alloc _ | .makeSlice .. | .makeMap _ none | .range .. => if o.guard.isNone then .A else .W
 | .box .. | .buildSlice .. => if pu then .D else if o.guard.isNone then .A else .W
 | .lookup .. => if f then .L else .W
 | .store .. | .next .. | .mapUpdate .. => .W
 | _ => .D
section
variable {p : Par} {all : List Oper} {f x pu : Bool} {o : Oper} {ρ : Env}
theorem clsD_of_fun {D : (AV → Prop) → Prop} (h : Fun1 D) : ClsD fun σ K => D fun r => K r σ := by
 by_cases hd : ∃ K, D K
 ·obtain ⟨K, hK⟩ := hd
  obtain ⟨r, h1, h2, h3⟩ := h K hK
  exact .inr ⟨r, fun σ K' => ⟨fun hh => h3 (fun x => K' x σ) hh, fun hh => h2 (fun x => K' x σ) hh⟩⟩
 ·exact .inl fun σ K hh => hd ⟨_, hh⟩
theorem clsG {k : Kd} (hk : k ≠ .A ∧ k ≠ .N) {g : Option (Nat × Bool)} {S : Stp} (h : Cls k S) : Cls k fun σ K => aguard all g ρ (S σ K) (K (.v undef) σ) := by
 have skip : Cls k fun σ (K : AV → Sig → Prop) => K (.v undef) σ := by
  cases k with
  | D => exact .inr ⟨.v undef, fun _ _ => Iff.rfl⟩
  | C => exact ⟨fun r => r = .v undef, fun σ K => ⟨fun hh => ⟨_, rfl, hh⟩, fun ⟨_, e, hh⟩ => e ▸ hh⟩⟩
  | R => exact ⟨fun _ r => r = .v undef, fun σ K => ⟨fun hh => ⟨_, rfl, hh⟩, fun ⟨_, e, hh⟩ => e ▸ hh⟩⟩
  | L => exact ⟨fun _ r => r = .v undef, fun σ K => ⟨fun hh => ⟨_, rfl, hh⟩, fun ⟨_, e, hh⟩ => e ▸ hh⟩, fun _ _ _ _ _ e => e⟩
  | N => exact absurd rfl hk.2
  | A => exact absurd rfl hk.1
  | V => exact ⟨fun _ r => r = .v undef, fun σ K => ⟨fun hh => ⟨_, rfl, hh⟩, fun ⟨_, e, hh⟩ => e ▸ hh⟩, fun _ _ _ _ _ e => e, fun _ _ _ _ e => e⟩
  | X => exact fun σ K h => ⟨Keep1.refl σ, h⟩
  | W => trivial
 have never : Cls k fun σ (K : AV → Sig → Prop) => False := by
  cases k with
  | D => exact .inl fun _ _ h => h
  | C => exact ⟨fun _ => False, fun σ K => ⟨fun h => h.elim, fun ⟨_, h, _⟩ => h⟩⟩
  | R => exact ⟨fun _ _ => False, fun σ K => ⟨fun h => h.elim, fun ⟨_, h, _⟩ => h⟩⟩
  | L => exact ⟨fun _ _ => False, fun σ K => ⟨fun h => h.elim, fun ⟨_, h, _⟩ => h⟩, fun _ _ _ _ _ e => e⟩
  | N => exact absurd rfl hk.2
  | A => exact absurd rfl hk.1
  | V => exact ⟨fun _ _ => False, fun σ K => ⟨fun h => h.elim, fun ⟨_, h, _⟩ => h⟩, fun _ _ _ _ _ e => e, fun _ _ _ _ e => e⟩
  | X => exact fun σ K h => h.elim
  | W => trivial
 unfold aguard
 cases g with
 | none => exact h
 | some jw =>
  obtain ⟨j, want⟩ := jw
  dsimp only
  cases (all[j]?).bind (·.dst) with
  | none => exact skip
  | some t =>
   dsimp only
   split
   ·rename_i b _
    by_cases hb : b = want
    ·have e : (fun σ (K : AV → Sig → Prop) => (b = want → S σ K) ∧ (b = !want → K (.v undef) σ)) = S := by
      funext σ K
      refine propext ⟨fun hh => hh.1 hb, fun hh => ⟨fun _ => hh, fun e => ?_⟩⟩
      subst hb
      cases b <;> simp at e
     rw [e]; exact h
    ·have hb' : b = !want := by cases b <;> cases want <;> simp_all
     have e : (fun σ (K : AV → Sig → Prop) => (b = want → S σ K) ∧ (b = !want → K (.v undef) σ)) = fun σ K => K (.v undef) σ := by
      funext σ K
      exact propext ⟨fun hh => hh.2 hb', fun hh => ⟨fun e => absurd e hb, fun _ => hh⟩⟩
     rw [e]; exact skip
   ·exact skip
   ·exact never
theorem load_clsL0 {t : TypeId} {a : Operand} {ev : Operand → AV} : ClsL0 fun σ K => aop p.P p.Lf p.Γ pu ev σ (.load t a) K := by
 simp only [aop]
 generalize ev a = x
 by_cases h1 : ∃ cs off, x = .pp cs off
 ·obtain ⟨cs, off, rfl⟩ := h1
  refine ⟨fun σ => (tkOf p.P t).bind fun k => k.part cs off, fun σ K => ⟨?_, ?_⟩, fun σ b x r hb h => h⟩
  ·rintro ⟨k, r, h1, h2, h3⟩; exact ⟨r, by simp [h1, h2], h3⟩
  ·rintro ⟨r, h1, h2⟩
   obtain ⟨k, h3, h4⟩ := Option.bind_eq_some_iff.1 h1
   exact ⟨k, r, h3, h4, h2⟩
 ·by_cases h2 : ∃ b off, x = .v (.pointer (some ⟨b, off, none⟩))
  ·obtain ⟨b, off, rfl⟩ := h2
   refine ⟨fun σ => (rowOf (σ b)).bind fun q => (tkOf p.P t).bind fun k => k.part q.1 off, fun σ K => ⟨?_, ?_⟩, fun σ b' x r hb h => ?_⟩
   ·rintro ⟨k, q, r, h1, h2, h3, h4⟩; exact ⟨r, by simp [h1, h2, h3], h4⟩
   ·rintro ⟨r, h1, h2⟩
    obtain ⟨q, h3, h1⟩ := Option.bind_eq_some_iff.1 h1
    obtain ⟨k, h4, h5⟩ := Option.bind_eq_some_iff.1 h1
    exact ⟨k, q, r, h4, h3, h5, h2⟩
   ·have hne : b ≠ b' := by
     rintro rfl
     obtain ⟨q, h3, _⟩ := Option.bind_eq_some_iff.1 h
     rw [hb] at h3
     cases h3
    show (rowOf (upd σ b' x b)).bind _ = some r
    rw [upd_ne _ _ _ _ hne]
    exact h
  ·refine ⟨fun _ => none, fun σ K => ⟨fun h => ?_, fun ⟨_, h, _⟩ => by cases h⟩, fun σ b x r hb h => h⟩
   split at h
   ·exact absurd ⟨_, _, rfl⟩ h1
   ·exact absurd ⟨_, _, rfl⟩ h2
   ·exact h.elim
theorem load_clsL {t : TypeId} {a : Operand} {ev : Operand → AV} : ClsL fun σ K => aop p.P p.Lf p.Γ pu ev σ (.load t a) K := load_clsL0.to
theorem clsA_of {F : Prop} {S : Stp} (hn : ¬ F → ∀ σ K, ¬ S σ K) (hf : F → ∃ (f : Nat → AV) (g : Nat → Blk), ∀ σ K, S σ K ↔ ∀ b, σ b = none → K (f b) (upd σ b (some (g b)))) : ClsA S := by
 by_cases h : F
 ·exact .inr (hf h)
 ·exact .inl (hn h)
theorem alloc_clsA {t : TypeId} {ev : Operand → AV} : ClsA fun σ K => aop p.P p.Lf p.Γ pu ev σ (.alloc t) K := by
 refine clsA_of (F := ∃ k, tkOf p.P t = some k) (fun hn σ K ⟨k, h, _⟩ => hn ⟨k, h⟩) fun ⟨k, hk⟩ => ⟨fun b => .v (.pointer (some ⟨b, 0, none⟩)), fun b => allocB t k, fun σ K => ⟨?_, fun h => ⟨k, hk, h⟩⟩⟩
 rintro ⟨k', hk', h⟩
 rw [hk] at hk'
 cases hk'
 exact h
theorem box_clsA {t : TypeId} {x : Operand} {ev : Operand → AV} : ClsA fun σ K => aop p.P p.Lf p.Γ false ev σ (.box t x) K := by
 refine clsA_of (F := ∃ xs, (ev x).cells? = some xs) (fun hn σ K h => ?_) fun ⟨k, hk⟩ => ⟨fun b => .v (.pointer (some ⟨b, 0, none⟩)), fun b => .row k k.length 1, fun σ K => ⟨?_, fun h => ?_⟩⟩
 ·simp only [aop, Bool.false_eq_true, if_false] at h
  obtain ⟨xs, h, _⟩ := h
  exact hn ⟨xs, h⟩
 ·intro h
  simp only [aop, Bool.false_eq_true, if_false] at h
  obtain ⟨xs, h1, h⟩ := h
  rw [hk] at h1
  cases h1
  exact h
 ·simp only [aop, Bool.false_eq_true, if_false]
  exact ⟨k, hk, h⟩
theorem build_clsA {t : TypeId} {n : Nat} {parts : Array (Nat × Operand)} {ev : Operand → AV} : ClsA fun σ K => aop p.P p.Lf p.Γ false ev σ (.buildSlice t n parts) K := by
 simp only [aop, Bool.false_eq_true, if_false]
 refine clsA_of (F := ∃ e k cs, elemOf p.P t = some (none, e) ∧ tkOf p.P e = some k ∧ k.size ≠ 0 ∧ n ≤ 65536 ∧ k.size ≤ 256 ∧ k.zero.length = k.size ∧
   fillA (fun i => some (i * k.size, k.size)) (List.replicate n k.zero).flatten (parts.toList.map fun p => (p.1, ev p.2)) = some cs) (fun hn σ K h => ?_) fun ⟨e, k, cs, h1, h2, h3, h4, h5, h6, h7⟩ => ⟨fun b => .own b k.size 0 n, fun b => .row cs k.size n, fun σ K => ⟨?_, fun h => ⟨e, k, cs, h1, h2, h3, h4, h5, h6, h7, h⟩⟩⟩
 ·obtain ⟨e, k, cs, h1, h2, h3, h4, h5, h6, h7, _⟩ := h
  exact hn ⟨e, k, cs, h1, h2, h3, h4, h5, h6, h7⟩
 ·rintro ⟨e', k', cs', g1, g2, g3, g4, g5, g6, g7, h⟩
  rw [h1] at g1; cases g1
  rw [h2] at g2; cases g2
  rw [h7] at g7; cases g7
  exact h
theorem makeSlice_clsA {t : TypeId} {l c : Operand} {ev : Operand → AV} : ClsA fun σ K => aop p.P p.Lf p.Γ pu ev σ (.makeSlice t l c) K := by
 simp only [aop]
 generalize ev l = x
 generalize ev c = y
 by_cases hxy : ∃ n m, x = .v (.int .i64 n) ∧ y = .v (.int .i64 m)
 ·obtain ⟨n, m, rfl, rfl⟩ := hxy
  dsimp only
  refine clsA_of (F := ∃ e k, elemOf p.P t = some (none, e) ∧ tkOf p.P e = some k ∧ k.size ≠ 0 ∧ k.zero.length = k.size ∧ 0 ≤ n ∧ n ≤ m ∧ (p.P.bytesOf e : Int) * m ≤ 140737488355328 ∧ m ≤ 9223372036854775807) (fun hn σ K h => ?_) fun ⟨e, k, h1, h2, h3⟩ => ⟨fun b => .own b k.size 0 n.toNat, fun b => .row (List.replicate m.toNat k.zero).flatten k.size m.toNat, fun σ K => ⟨?_, fun h => ⟨e, k, h1, h2, h3.1, h3.2.1, h3.2.2.1, h3.2.2.2.1, h3.2.2.2.2.1, h3.2.2.2.2.2, h⟩⟩⟩
  ·obtain ⟨e, k, h1, h2, h3, h4, h5, h6, h7, h8, _⟩ := h
   exact hn ⟨e, k, h1, h2, h3, h4, h5, h6, h7, h8⟩
  ·rintro ⟨e', k', g1, g2, g3, g4, g5, g6, g7, g8, h⟩
   rw [h1] at g1; cases g1
   rw [h2] at g2; cases g2
   exact h
 ·refine .inl fun σ K h => ?_
  split at h
  ·exact hxy ⟨_, _, rfl, rfl⟩
  ·exact h
theorem makeMap_clsA {t : TypeId} {ev : Operand → AV} : ClsA fun σ K => aop p.P p.Lf p.Γ pu ev σ (.makeMap t none) K :=
 .inr ⟨fun b => .v (.map (some b)), fun b => .map [], fun σ K => Iff.rfl⟩
theorem range_clsA {t : TypeId} {x : Operand} {ev : Operand → AV} : ClsA fun σ K => aop p.P p.Lf p.Γ pu ev σ (.range t x) K := by
 simp only [aop]
 generalize ev x = x
 by_cases hx : ∃ s, x = .v (.string s)
 ·obtain ⟨s, rfl⟩ := hx
  exact clsA_of (F := p.P.underlying t = some .string) (fun hn σ K h => hn h.1) fun h => ⟨fun b => .v (.pointer (some ⟨b, 0, none⟩)), fun b => .obj (.stringIter s 0), fun σ K => ⟨fun hh => hh.2, fun hh => ⟨h, hh⟩⟩⟩
 ·refine .inl fun σ K h => ?_
  split at h
  ·exact hx ⟨_, rfl⟩
  ·exact h
theorem load_clsV {t : TypeId} {a : Operand} {ev : Operand → AV} : ClsV fun σ K => aopX p f true pu ev σ (.load t a) K := by
 simp only [aopX]
 generalize ev a = y
 by_cases h2 : ∃ b off, y = .v (.pointer (some ⟨b, off, none⟩))
 ·obtain ⟨b, off, rfl⟩ := h2
  refine ⟨fun σ r => ∃ k cs c, tkOf p.P t = some k ∧ σ b = some (.row cs 1 c) ∧ k.part cs off = some r, fun σ K => ⟨?_, ?_⟩, fun σ b' z r hb h => ?_, fun σ σ' r hk h => ?_⟩
  ·rintro ⟨k, cs, c, r, h1, h2, h3, h4⟩; exact ⟨r, ⟨k, cs, c, h1, h2, h3⟩, h4⟩
  ·rintro ⟨r, ⟨k, cs, c, h1, h2, h3⟩, h4⟩; exact ⟨k, cs, c, r, h1, h2, h3, h4⟩
  ·obtain ⟨k, cs, c, h1, h2, h3⟩ := h
   have hne : b ≠ b' := by rintro rfl; rw [hb] at h2; cases h2
   exact ⟨k, cs, c, h1, by rw [upd_ne _ _ _ _ hne]; exact h2, h3⟩
  ·obtain ⟨k, cs, c, h1, h2, h3⟩ := h
   exact ⟨k, cs, c, h1, hk _ _ _ h2, h3⟩
 ·refine ⟨fun _ _ => False, fun σ K => ⟨fun h => ?_, fun ⟨_, h, _⟩ => h.elim⟩, fun _ _ _ _ _ h => h, fun _ _ _ _ h => h⟩
  split at h
  ·exact absurd ⟨_, _, rfl⟩ h2
  ·exact h.elim
theorem callX_mono {fv : AV} {args : List AV} {σ : Sig} {K K' : AV → Sig → Prop} (hk : ∀ r σ', K r σ' → K' r σ') (h : callOp p.P p.Γ fv args σ K) : callOp p.P p.Γ fv args σ K' := by
 unfold callOp at h ⊢
 split at h
 ·exact ACalls.mono h hk
 ·exact FCalls.mono h hk
theorem ostep_clsX : Cls (kdOf f true (!p.mz o.dst) o) (ostep p all f true o ρ) := by
 unfold kdOf
 simp only [if_true]
 cases ho : o.op with
 | load t a =>
  dsimp only
  unfold ostep
  rw [ho]
  exact clsG (k := .V) (by simp) (S := fun σ K => aopX p f true (!p.mz o.dst) (aev p.Γ ρ) σ (.load t a) K) load_clsV
 | call c =>
  dsimp only
  cases hc : c.callee with
  | value fo =>
   dsimp only
   unfold ostep
   rw [ho]
   refine clsG (k := .X) (by simp) (S := fun σ K => aopX p f true (!p.mz o.dst) (aev p.Γ ρ) σ (.call c) K) ?_
   intro σ K h
   simp only [aopX, hc] at h ⊢
   exact callX_mono (fun r σ' hh => ⟨hh.1, hh.1, hh.2⟩) h
  | _ => trivial
 | _ => trivial
theorem ostep_cls0 : Cls (kdOf f false (!p.mz o.dst) o) (ostep p all f false o ρ) := by
 have detD : ∀ {op : Op}, o.op = op → (∀ σ K, aopD p f (!p.mz o.dst) (aev p.Γ ρ) σ op K = dop p.P p.Lf (!p.mz o.dst) (aev p.Γ ρ) op fun r => K r σ) → Cls .D (ostep p all f false o ρ) := fun {op} ho e => by
  unfold ostep
  rw [ho]
  refine clsG (k := .D) (by simp) (S := fun σ K => aopD p f (!p.mz o.dst) (aev p.Γ ρ) σ op K) ?_
  have : (fun σ K => aopD p f (!p.mz o.dst) (aev p.Γ ρ) σ op K) = fun σ K => dop p.P p.Lf (!p.mz o.dst) (aev p.Γ ρ) op fun r => K r σ := by
   funext σ K; exact e σ K
  rw [this]
  exact clsD_of_fun (dop_fun _ _ _ _ _)
 have newA : ∀ {op : Op}, o.op = op → (ClsA fun σ K => aopD p f (!p.mz o.dst) (aev p.Γ ρ) σ op K) → Cls (if o.guard.isNone then .A else .W) (ostep p all f false o ρ) := fun ho h => by
  split
  ·rename_i hg
   have hg' : o.guard = none := by simpa using hg
   unfold ostep
   rw [hg', ho]
   exact h
  ·trivial
 have nf : ∀ {op : Op} {σ K}, (∀ t a, op ≠ .load t a) → (∀ c, op ≠ .call c) → (∀ t m k ok, op ≠ .lookup t m k ok) → aopD p f (!p.mz o.dst) (aev p.Γ ρ) σ op K = aop p.P p.Lf p.Γ (!p.mz o.dst) (aev p.Γ ρ) σ op K := by
  intro op σ K h1 h2 h3
  unfold aopD
  split
  ·exact absurd rfl (h1 _ _)
  ·exact absurd rfl (h2 _)
  ·exact absurd rfl (h2 _)
  ·exact absurd rfl (h3 _ _ _ _)
  ·rfl
 have nfe : ∀ {op : Op}, (∀ t a, op ≠ .load t a) → (∀ c, op ≠ .call c) → (∀ t m k ok, op ≠ .lookup t m k ok) → (fun σ K => aopD p f (!p.mz o.dst) (aev p.Γ ρ) σ op K) = fun σ K => aop p.P p.Lf p.Γ (!p.mz o.dst) (aev p.Γ ρ) σ op K := fun h1 h2 h3 => by
  funext σ K; exact nf h1 h2 h3
 unfold kdOf
 simp only [Bool.false_eq_true, if_false]
 cases ho : o.op with
 | load t a =>
  dsimp only
  cases hf : f with
  | true =>
   simp only [if_true]
   unfold ostep
   rw [ho]
   refine clsG (k := .D) (by simp) (S := fun σ K => aopD p true (!p.mz o.dst) (aev p.Γ ρ) σ (.load t a) K) ?_
   simp only [aopD]
   generalize aev p.Γ ρ a = x
   by_cases hx : ∃ cs off k r, x = .pp cs off ∧ tkOf p.P t = some k ∧ k.part cs off = some r
   ·obtain ⟨cs, off, k, r, rfl, h1, h2⟩ := hx
    refine .inr ⟨r, fun σ K => ⟨?_, fun h => ⟨k, r, h1, h2, h⟩⟩⟩
    rintro ⟨k', r', g1, g2, h⟩
    rw [h1] at g1; cases g1
    rw [h2] at g2; cases g2
    exact h
   ·refine .inl fun σ K h => ?_
    split at h
    ·obtain ⟨k, r, h1, h2, _⟩ := h
     exact hx ⟨_, _, k, r, rfl, h1, h2⟩
    ·exact h
  | false =>
   simp only [Bool.false_eq_true, if_false]
   unfold ostep
   rw [ho]
   exact clsG (k := .L) (by simp) (S := fun σ K => aopD p false (!p.mz o.dst) (aev p.Γ ρ) σ (.load t a) K) (load_clsL (pu := !p.mz o.dst))
 | call c =>
  dsimp only
  cases hc : c.callee with
  | value fo =>
   dsimp only
   cases hf : f with
   | true =>
    simp only [if_true]
    unfold ostep
    rw [ho]
    cases hpu : !p.mz o.dst with
    | true =>
     simp only [if_true]
     refine clsG (k := .C) (by simp) (S := fun σ K => aopD p true true (aev p.Γ ρ) σ (.call c) K) ?_
     refine ⟨fun r => DCall p.P p.Γ (aev p.Γ ρ fo) (c.args.toList.map (aev p.Γ ρ)) r, fun σ K => ?_⟩
     simp only [aopD, hc, if_true]
    | false =>
     simp only [Bool.false_eq_true, if_false]
     refine clsG (k := .L) (by simp) (S := fun σ K => aopD p true false (aev p.Γ ρ) σ (.call c) K) ?_
     refine ⟨fun σ r => ∀ σ', (∀ b x, σ b = some x → σ' b = some x) → ∀ K, K r σ' → callOp p.P p.Γ (aev p.Γ ρ fo) (c.args.toList.map (aev p.Γ ρ)) σ' K, fun σ K => by simp only [aopD, hc, Bool.false_eq_true, if_false], ?_⟩
     intro σ b x r hb h σ' he
     refine h σ' fun i y hi => he i y ?_
     rw [upd_ne]
     ·exact hi
     ·intro e; subst e; rw [hb] at hi; cases hi
   | false =>
    simp only [Bool.false_eq_true, if_false]
    cases hpu : !p.mz o.dst with
    | true => simp only [if_true]; trivial
    | false =>
     simp only [Bool.false_eq_true, if_false]
     split
     ·rename_i hg
      have hg' : o.guard = none := by simpa using hg
      unfold ostep
      rw [hg', ho, hpu]
      refine ⟨fun s cs n => OCall p.P p.Γ (aev p.Γ ρ fo) (c.args.toList.map (aev p.Γ ρ)) s cs n, fun s cs n h => h.1, fun σ K => ?_⟩
      simp only [aguard, aopX, aopD, hc, Bool.false_eq_true, if_false]
     ·trivial
  | builtin b =>
   cases b <;> dsimp only <;> first
    | trivial
    | (cases hf : f with
     | true =>
      simp only [if_true]
      unfold ostep
      rw [ho]
      refine clsG (k := .L) (by simp) (S := fun σ K => aopD p true (!p.mz o.dst) (aev p.Γ ρ) σ (.call c) K) ?_
      refine ⟨fun σ r => ∀ σ', (∀ b x, σ b = some x → σ' b = some x) → ∀ K, K r σ' → aop p.P p.Lf p.Γ (!p.mz o.dst) (aev p.Γ ρ) σ' (.call c) K, fun σ K => by simp only [aopD, hc], ?_⟩
      intro σ b x r hb h σ' he
      refine h σ' fun i y hi => he i y ?_
      rw [upd_ne]
      ·exact hi
      ·intro e; subst e; rw [hb] at hi; cases hi
     | false => simp only [Bool.false_eq_true, if_false]; trivial)
    | exact detD ho fun σ K => by cases f <;> simp only [aopD, aop, hc]
  | _ => exact detD ho fun σ K => by cases f <;> simp only [aopD, aop, hc]
 | alloc t => exact newA ho (by rw [nfe (by simp) (by simp) (by simp)]; exact alloc_clsA)
 | makeSlice t l c => exact newA ho (by rw [nfe (by simp) (by simp) (by simp)]; exact makeSlice_clsA)
 | makeMap t x =>
  cases x with
  | none => exact newA ho (by rw [nfe (by simp) (by simp) (by simp)]; exact makeMap_clsA)
  | some x => exact detD ho fun σ K => nf (by simp) (by simp) (by simp)
 | range t x => exact newA ho (by rw [nfe (by simp) (by simp) (by simp)]; exact range_clsA)
 | box t x =>
  dsimp only
  cases hp : p.mz o.dst with
  | false => simp only [Bool.not_false, if_true]; exact detD ho fun σ K => by rw [nf (by simp) (by simp) (by simp)]; simp only [aop, hp, Bool.not_false, if_true]
  | true => simp only [Bool.not_true, Bool.false_eq_true, if_false]; exact newA ho (by rw [nfe (by simp) (by simp) (by simp), hp]; exact box_clsA)
 | buildSlice t n ps =>
  dsimp only
  cases hp : p.mz o.dst with
  | false => simp only [Bool.not_false, if_true]; exact detD ho fun σ K => by rw [nf (by simp) (by simp) (by simp)]; simp only [aop, hp, Bool.not_false, if_true]
  | true => simp only [Bool.not_true, Bool.false_eq_true, if_false]; exact newA ho (by rw [nfe (by simp) (by simp) (by simp), hp]; exact build_clsA)
 | store => trivial
 | next => trivial
 | lookup t m k ok =>
  dsimp only
  cases hf : f with
  | true =>
   simp only [if_true]
   unfold ostep
   rw [ho]
   refine clsG (k := .L) (by simp) (S := fun σ K => aopD p true (!p.mz o.dst) (aev p.Γ ρ) σ (.lookup t m k ok) K) ?_
   refine ⟨fun σ r => ∀ σ', (∀ b x, σ b = some x → σ' b = some x) → ∀ K, K r σ' → aop p.P p.Lf p.Γ (!p.mz o.dst) (aev p.Γ ρ) σ' (.lookup t m k ok) K, fun σ K => Iff.rfl, ?_⟩
   intro σ b x r hb h σ' he
   refine h σ' fun i y hi => he i y ?_
   rw [upd_ne]
   ·exact hi
   ·intro e; subst e; rw [hb] at hi; cases hi
  | false => simp only [Bool.false_eq_true, if_false]; trivial
 | mapUpdate => trivial
 | _ => exact detD ho fun σ K => nf (by simp) (by simp) (by simp)
theorem ostep_cls : Cls (kdOf f x (!p.mz o.dst) o) (ostep p all f x o ρ) := by
 cases x with
 | true => exact ostep_clsX
 | false => exact ostep_cls0
end
theorem fun1_mono {D : (AV → Prop) → Prop} (h : Fun1 D) {K K' : AV → Prop} (hk : ∀ r, K r → K' r) (d : D K) : D K' := by
 obtain ⟨r, h1, h2, _⟩ := h K d
 exact h2 K' (hk r h1)
theorem SemOk.mono {P : Program} {Γ : Glob} {σ : Sig} {args : List AV} {f : List Value → Sem Value} {K K' : AV → Sig → Prop} (hk : ∀ r σ', K r σ' → K' r σ') (h : SemOk P Γ σ args f K) : SemOk P Γ σ args f K' := by
 intro w vs r hv
 obtain ⟨v, w', x, σ', h1, h2, h3, h4, h5⟩ := h w vs r hv
 exact ⟨v, w', x, σ', h1, h2, h3, h4, hk _ _ h5⟩
theorem callOp_mono {P : Program} {Γ : Glob} {fv : AV} {args : List AV} {σ : Sig} {K K' : AV → Sig → Prop} (hk : ∀ r σ', K r σ' → K' r σ') (h : callOp P Γ fv args σ K) : callOp P Γ fv args σ K' := by
 unfold callOp at h ⊢
 split at h
 ·exact ACalls.mono h hk
 ·exact FCalls.mono h hk
theorem aop_mono {P : Program} {Lf : TypeId → List LeafK} {Γ : Glob} {pu : Bool} {ev : Operand → AV} {σ : Sig} {op : Op} {K K' : AV → Sig → Prop} (hk : ∀ r σ', K r σ' → K' r σ') (h : aop P Lf Γ pu ev σ op K) : aop P Lf Γ pu ev σ op K' := by
 have det0 : ∀ {op}, dop P Lf pu ev op (fun r => K r σ) → dop P Lf pu ev op (fun r => K' r σ) := fun h => fun1_mono (dop_fun _ _ _ _ _) (fun r => hk r σ) h
 have det : ∀ op, (∀ K, aop P Lf Γ pu ev σ op K = dop P Lf pu ev op (fun r => K r σ)) → aop P Lf Γ pu ev σ op K → aop P Lf Γ pu ev σ op K' := fun op e h => by rw [e] at h ⊢; exact det0 h
 cases op <;> (try exact det _ (fun _ => rfl) h)
 case alloc t => obtain ⟨k, h1, h⟩ := h; exact ⟨k, h1, fun b hb => hk _ _ (h b hb)⟩
 case box t x =>
  simp only [aop] at h ⊢
  split at h
  ·rename_i hp; rw [if_pos hp]; exact det0 h
  ·rename_i hp; rw [if_neg hp]; obtain ⟨xs, h1, h⟩ := h; exact ⟨xs, h1, fun b hb => hk _ _ (h b hb)⟩
 case buildSlice t n ps =>
  simp only [aop] at h ⊢
  split at h
  ·rename_i hp; rw [if_pos hp]; exact det0 h
  ·rename_i hp; rw [if_neg hp]; obtain ⟨e, k, cs, h1, h2, h3, h4, h5, h6, h7, h⟩ := h; exact ⟨e, k, cs, h1, h2, h3, h4, h5, h6, h7, fun b hb => hk _ _ (h b hb)⟩
 case load t a =>
  simp only [aop] at h ⊢
  split at h
  ·obtain ⟨k, r, h1, h2, h⟩ := h; exact ⟨k, r, h1, h2, hk _ _ h⟩
  ·obtain ⟨k, q, r, h1, h2, h3, h⟩ := h; exact ⟨k, q, r, h1, h2, h3, hk _ _ h⟩
  ·exact h
 case store t a x =>
  simp only [aop] at h ⊢
  split at h
  ·obtain ⟨k, xs, q, h1, h2, h3, h4, h5, h6, h⟩ := h; exact ⟨k, xs, q, h1, h2, h3, h4, h5, h6, hk _ _ h⟩
  ·exact h
 case makeMap t x =>
  cases x with
  | none => intro b hb; exact hk _ _ (h b hb)
  | some x => exact det _ (fun _ => rfl) h
 case makeSlice t l c =>
  simp only [aop] at h ⊢
  split at h
  ·obtain ⟨e, k, h1, h2, h3, h4, h5, h6, h7, h8, h⟩ := h; exact ⟨e, k, h1, h2, h3, h4, h5, h6, h7, h8, fun b hb => hk _ _ (h b hb)⟩
  ·exact h
 case range t x =>
  simp only [aop] at h ⊢
  split at h
  ·exact ⟨h.1, fun b hb => hk _ _ (h.2 b hb)⟩
  ·exact h
 case lookup => exact SemOk.mono hk h
 case mapUpdate => exact SemOk.mono hk h
 case next it b =>
  cases b with
  | false => exact det _ (fun _ => rfl) h
  | true =>
   simp only [aop] at h ⊢
   split at h
   ·obtain ⟨s, pos, h1, h2, h3⟩ := h; exact ⟨s, pos, h1, fun hh => hk _ _ (h2 hh), fun hh => hk _ _ (h3 hh)⟩
   ·exact h
 case call c =>
  simp only [aop] at h ⊢
  split at h
  ·split at h
   ·intro ty; exact SemOk.mono hk (h ty)
   ·exact h
  ·split at h
   ·intro ty; exact SemOk.mono hk (h ty)
   ·exact h
  ·split at h
   ·intro ty; exact SemOk.mono hk (h ty)
   ·exact h
  ·exact callOp_mono hk h
  ·exact det0 h
section
variable {p : Par} {all : List Oper} {f pu : Bool} {o : Oper} {ρ : Env} {σ : Sig} {ev ev' : Operand → AV} {op : Op} {K K' : AV → Sig → Prop}
theorem aopD_mono (hk : ∀ r σ', K r σ' → K' r σ') (h : aopD p f pu ev σ op K) : aopD p f pu ev σ op K' := by
 unfold aopD at h ⊢
 split at h
 ·split at h
  ·obtain ⟨k, r, h1, h2, h⟩ := h; exact ⟨k, r, h1, h2, hk _ _ h⟩
  ·exact h
 ·split at h
  ·split at h
   ·rename_i hp; rw [if_pos hp]; obtain ⟨r, h1, h⟩ := h; exact ⟨r, h1, hk _ _ h⟩
   ·rename_i hp; rw [if_neg hp]; obtain ⟨r, h1, h⟩ := h; exact ⟨r, h1, hk _ _ h⟩
  ·obtain ⟨r, h1, h⟩ := h; exact ⟨r, h1, hk _ _ h⟩
  ·exact aop_mono hk h
 ·split at h
  ·split at h
   ·rename_i hp; rw [if_pos hp]; exact aop_mono hk h
   ·rename_i hp; rw [if_neg hp]; obtain ⟨s, cs, n, h1, h⟩ := h; exact ⟨s, cs, n, h1, fun a σ' hm => hk _ _ (h a σ' hm)⟩
  ·exact aop_mono hk h
 all_goals first | exact aop_mono hk h | (obtain ⟨r, h1, h⟩ := h; exact ⟨r, h1, hk _ _ h⟩)
theorem aopD_aop (h : aopD p f pu ev σ op K) : aop p.P p.Lf p.Γ pu ev σ op K := by
 unfold aopD at h
 split at h
 ·rename_i t a _
  simp only [aop]
  split at h
  ·rename_i he; rw [he]; exact h
  ·exact h.elim
 ·rename_i c _
  split at h
  ·rename_i fo hc
   simp only [aop, hc]
   split at h
   ·obtain ⟨r, h1, h⟩ := h
    exact h1 σ K h
   ·obtain ⟨r, h1, h⟩ := h
    exact h1 σ (fun _ _ h => h) K h
  ·obtain ⟨r, h1, h⟩ := h
   exact h1 σ (fun _ _ h => h) K h
  ·exact h
 ·rename_i c _
  split at h
  ·rename_i fo hc
   split at h
   ·exact h
   ·obtain ⟨s, cs, n, h1, h⟩ := h
    simp only [aop, hc]
    exact h1.2 σ K h
  ·exact h
 all_goals first | exact h | (obtain ⟨r, h1, h⟩ := h; exact h1 σ (fun _ _ h => h) K h)
theorem aopD_congr (h : ∀ x ∈ op.operands.toList, ev x = ev' x) : aopD p f pu ev σ op K = aopD p f pu ev' σ op K := by
 cases f with
 | false =>
  cases op <;> (try (simp only [aopD]; exact aop_congr h K))
  case call c =>
   simp only [aopD]
   split
   ·rename_i fo hc
    have e : ∀ K, aop p.P p.Lf p.Γ pu ev σ (.call c) K = aop p.P p.Lf p.Γ pu ev' σ (.call c) K := fun K => aop_congr h K
    simp only [Op.operands] at h
    have hx : ∀ x ∈ c.args.toList, ev x = ev' x := fun x hx => h x (by simp [Call.operands]; exact .inr (by simpa using hx))
    rw [h fo (by simp [Call.operands, hc]), List.map_congr_left hx, e]
   ·exact aop_congr h K
 | true =>
  cases op <;> (try (simp only [aopD]; exact aop_congr h K))
  case load t a => simp only [Op.operands] at h; simp only [aopD, h a (by simp)]
  case lookup t m k ok =>
   have e : ∀ σ' K, aop p.P p.Lf p.Γ pu ev σ' (.lookup t m k ok) K = aop p.P p.Lf p.Γ pu ev' σ' (.lookup t m k ok) K := fun σ' K => aop_congr h K
   simp only [aopD, e]
  case call c =>
   simp only [aopD]
   split
   ·rename_i fo hc
    simp only [Op.operands] at h
    have hx : ∀ x ∈ c.args.toList, ev x = ev' x := fun x hx => h x (by simp [Call.operands]; exact .inr (by simpa using hx))
    rw [h fo (by simp [Call.operands, hc]), List.map_congr_left hx]
   ·have e : ∀ σ' K, aop p.P p.Lf p.Γ pu ev σ' (.call c) K = aop p.P p.Lf p.Γ pu ev' σ' (.call c) K := fun σ' K => aop_congr h K
    simp only [e]
   ·exact aop_congr h K
theorem aguard_mono {g : Option (Nat × Bool)} {a b a' b' : Prop} (h1 : a → a') (h2 : b → b') (h : aguard all g ρ a b) : aguard all g ρ a' b' := by
 unfold aguard at h ⊢
 split at h
 ·exact h1 h
 ·split at h
  ·exact h2 h
  ·split at h
   ·exact ⟨fun e => h1 (h.1 e), fun e => h2 (h.2 e)⟩
   ·exact h2 h
   ·exact h
theorem aopX_mono {x : Bool} (hk : ∀ r σ', K r σ' → K' r σ') (h : aopX p f x pu ev σ op K) : aopX p f x pu ev σ op K' := by
 unfold aopX at h ⊢
 split at h
 ·exact aopD_mono hk h
 ·split at h
  ·split at h
   ·obtain ⟨k, cs, c, r, h1, h2, h3, h4⟩ := h; exact ⟨k, cs, c, r, h1, h2, h3, hk _ _ h4⟩
   ·exact h
  ·split at h
   ·exact callOp_mono (fun r σ' hh => ⟨hh.1, hk _ _ hh.2⟩) h
   ·exact h
  ·exact h
theorem aopX_aop {x : Bool} (h : aopX p f x pu ev σ op K) : aop p.P p.Lf p.Γ pu ev σ op K := by
 unfold aopX at h
 split at h
 ·exact aopD_aop h
 ·split at h
  ·simp only [aop]
   split at h
   ·rename_i he
    rw [he]
    obtain ⟨k, cs, c, r, h1, h2, h3, h4⟩ := h
    exact ⟨k, (cs, 1, c, false), r, h1, by rw [h2]; rfl, h3, h4⟩
   ·exact h.elim
  ·split at h
   ·rename_i hc
    simp only [aop, hc]
    exact callOp_mono (fun r σ' hh => hh.2) h
   ·exact h.elim
  ·exact h.elim
theorem aopX_congr {x : Bool} (h : ∀ x ∈ op.operands.toList, ev x = ev' x) : aopX p f x pu ev σ op K = aopX p f x pu ev' σ op K := by
 cases x with
 | false => exact aopD_congr h
 | true =>
  cases op <;> (try rfl)
  case load t a => simp only [Op.operands] at h; simp only [aopX, h a (by simp)]
  case call c =>
   simp only [aopX]
   split
   ·rename_i fo hc
    simp only [Op.operands] at h
    have hx : ∀ x ∈ c.args.toList, ev x = ev' x := fun x hx => h x (by simp [Call.operands]; exact .inr (by simpa using hx))
    rw [h fo (by simp [Call.operands, hc]), List.map_congr_left hx]
   ·rfl
theorem ostep_mono {x : Bool} : Mono (ostep p all f x o ρ) := fun σ K K' hk h => aguard_mono (aopX_mono hk) (hk _ _) h
end
theorem aev_aput {Γ : Glob} {ρ : Env} {d : Option Tmp} {r : AV} {x : Operand} (h : ∀ t, d = some t → x ≠ .tmp t) : aev Γ (aput ρ d r) x = aev Γ ρ x := by
 cases d with
 | none => rfl
 | some t =>
  cases x with
  | tmp s => exact upd_ne _ _ _ _ (fun e => h t rfl (by rw [e]))
  | _ => rfl
theorem ostep_aput {p : Par} {ops : Array Oper} {f x : Bool} {o : Oper} {ρ : Env} {d : Option Tmp} {r : AV} (h : ∀ t, d = some t → t ∉ o.looksAt ops) : ostep p ops.toList f x o (aput ρ d r) = ostep p ops.toList f x o ρ := by
 funext σ K
 unfold ostep
 have hop : aopX p f x (!p.mz o.dst) (aev p.Γ (aput ρ d r)) σ o.op K = aopX p f x (!p.mz o.dst) (aev p.Γ ρ) σ o.op K :=
  aopX_congr fun x hx => aev_aput fun t ht e => h t ht (by
   subst e
   simp only [Oper.looksAt, List.mem_append]
   exact .inl (List.mem_filterMap.2 ⟨_, hx, rfl⟩))
 rw [hop]
 unfold aguard
 cases hg : o.guard with
 | none => rfl
 | some jw =>
  obtain ⟨j, want⟩ := jw
  dsimp only
  have e : (ops.toList[j]?).bind (·.dst) = (ops[j]?).bind (·.dst) := by simp
  rw [e]
  cases hd : (ops[j]?).bind (·.dst) with
  | none => rfl
  | some t =>
   have : aput ρ d r t = ρ t := by
    cases d with
    | none => rfl
    | some s => exact upd_ne _ _ _ _ (fun e => h s rfl (by
      subst e
      simp only [Oper.looksAt, hg, hd, List.mem_append]
      exact .inr (by simp)))
   simp only [this]
theorem aput_comm {ρ : Env} {d e : Option Tmp} {r s : AV} (h : ∀ t, d = some t → e ≠ some t) : aput (aput ρ d r) e s = aput (aput ρ e s) d r := by
 cases d with
 | none => rfl
 | some t =>
  cases e with
  | none => rfl
  | some u => exact upd_comm _ _ _ _ _ (fun e => h t rfl (by rw [e]))
def stepOf (p : Par) (ops : Array Oper) (fl : Nat → Bool × Bool) (i : Nat) (ρ : Env) : Stp :=
 match ops[i]? with
 | some o => ostep p ops.toList (fl i).1 (fl i).2 o ρ
 | none => fun σ K => K (.v undef) σ
def putOf (ops : Array Oper) (i : Nat) (ρ : Env) (r : AV) : Env :=
 match ops[i]? with
 | some o => aput ρ o.dst r
 | none => ρ
def kindOf (p : Par) (ops : Array Oper) (fl : Nat → Bool × Bool) (i : Nat) : Kd :=
 match ops[i]? with
 | some o => kdOf (fl i).1 (fl i).2 (!p.mz o.dst) o
 | none => .D
theorem stepOf_mono {p : Par} {ops : Array Oper} {fl : Nat → Bool × Bool} : ∀ i ρ, Mono (stepOf p ops fl i ρ) := fun i ρ => by
 unfold stepOf
 split
 ·exact ostep_mono
 ·exact fun σ K K' hk h => hk _ _ h
theorem stepOf_cls {p : Par} {ops : Array Oper} {fl : Nat → Bool × Bool} : ∀ i ρ, Cls (kindOf p ops fl i) (stepOf p ops fl i ρ) := fun i ρ => by
 unfold stepOf kindOf
 split
 ·exact ostep_cls
 ·exact .inr ⟨.v undef, fun _ _ => Iff.rfl⟩
theorem indep_of {p : Par} {ops : Array Oper} {fl : Nat → Bool × Bool} {i j : Nat} {oi oj : Oper} (hi : ops[i]? = some oi) (hj : ops[j]? = some oj) (h : oi.apart ops oj = true) : Indep (stepOf p ops fl) (putOf ops) i j := by
 obtain ⟨h1, h2, h3⟩ := Oper.apart_spec h
 refine ⟨fun ρ r => ?_, fun ρ r => ?_, fun ρ r s => ?_⟩
 ·simp only [stepOf, putOf, hi, hj]; exact ostep_aput h3
 ·simp only [stepOf, putOf, hi, hj]; exact ostep_aput h1
 ·simp only [putOf, hi, hj]; exact aput_comm (fun t ht e => h2 t e ht)
def directOf (ops : Array Oper) (j : Nat) : List Nat :=
 match ops[j]? with
 | some o => (o.after.toList.filter (Region.binds .any)).map (·.on)
 | none => []
def rkD (ops : Array Oper) (j : Nat) : Nat :=
 let m := (directOf ops j).foldl Nat.max 0
 if Nat.blt j m then 2 * m + 1 else 2 * j
def drawOk (p : Par) (ops : Array Oper) (fl : Nat → Bool × Bool) (bef : Nat → Nat) : Bool :=
 (List.range ops.size).all fun j =>
  (directOf ops j).all (fun i => Nat.blt i ops.size && Nat.blt (rkD ops i) (rkD ops j)) &&
  (List.range j).all fun i =>
   if (bef j).testBit i then (directOf ops j).any fun k => k == i || (decide (i < k) && (bef k).testBit i)
   else
    match ops[i]?, ops[j]? with
    | some oi, some oj => oi.apart ops oj && pairOk (kindOf p ops fl i) (kindOf p ops fl j)
    | _, _ => false
structure DrawOk (p : Par) (ops : Array Oper) (fl : Nat → Bool × Bool) (bef : Nat → Nat) : Prop where
 less : ∀ j, j < ops.size → ∀ i ∈ directOf ops j, i < ops.size ∧ rkD ops i < rkD ops j
 pred : ∀ j i, i < j → j < ops.size → (bef j).testBit i = true → ∃ k ∈ directOf ops j, k = i ∨ (i < k ∧ (bef k).testBit i = true)
 free : ∀ j i, i < j → j < ops.size → (bef j).testBit i = false → Indep (stepOf p ops fl) (putOf ops) i j ∧ pairOk (kindOf p ops fl i) (kindOf p ops fl j) = true
theorem drawOk_spec {p : Par} {ops : Array Oper} {fl : Nat → Bool × Bool} {bef : Nat → Nat} (h : drawOk p ops fl bef = true) : DrawOk p ops fl bef := by
 have hj : ∀ j, j < ops.size → _ := fun j hj => List.all_eq_true.1 h j (List.mem_range.2 hj)
 have hd : ∀ j, j < ops.size → ∀ i ∈ directOf ops j, i < ops.size ∧ rkD ops i < rkD ops j := fun j h1 i hi => by
  have := hj j h1
  rw [Bool.and_eq_true] at this
  have h2 := List.all_eq_true.1 this.1 i hi
  rw [Bool.and_eq_true] at h2
  rw [Nat.blt_eq, Nat.blt_eq] at h2
  exact h2
 have hi : ∀ j i, i < j → j < ops.size → _ := fun j i hij h1 => by
  have := hj j h1
  rw [Bool.and_eq_true] at this
  exact List.all_eq_true.1 this.2 i (List.mem_range.2 hij)
 refine ⟨hd, fun j i hij h1 ht => ?_, fun j i hij h1 ht => ?_⟩
 ·have := hi j i hij h1
  rw [if_pos ht] at this
  obtain ⟨k, hk, hkk⟩ := List.any_eq_true.1 this
  exact ⟨k, hk, by simpa using hkk⟩
 ·have := hi j i hij h1
  rw [if_neg (by simp [ht])] at this
  split at this
  ·rename_i oi oj h2 h3
   rw [Bool.and_eq_true] at this
   exact ⟨indep_of h2 h3 this.1, this.2⟩
  ·cases this
theorem Rel.fin {Γ : Glob} {w : World} {σ : Sig} (r : Rel Γ w σ) : FinS σ := ⟨w.heap.size, fun b hb => by
 cases h : σ b with
 | none => rfl
 | some x => exact absurd (r.blk b x h).1 (by omega)⟩
theorem wpIn_inh {P : Program} {o : Oper} {a : Act} {w : World} {K : Act → World → Prop} (h : o.wpIn (FF none) 0 P a w K (fun _ _ _ => False)) : ∃ a' w', K a' w' := by
 unfold Oper.wpIn at h
 have hh := h.2
 generalize (o.semAt (FF none).round a.eval).run P w = r at hh
 cases r with
 | ok x w' =>
  cases x <;> simp only [Oper.uponIn] at hh <;> (try exact ⟨_, _, hh⟩) <;> (try exact hh.elim)
  case enter =>
   obtain ⟨e, w'', fr, he, _⟩ := hh.2.2 [] (FF_room _ _)
   cases e <;> first | exact ⟨_, _, he⟩ | exact he.elim | (obtain ⟨_, _, q⟩ := he; exact q.elim)
  case round =>
   obtain ⟨e, w'', he, _⟩ := hh.2.2 default [] (FF_room _ _)
   cases e <;> first | exact ⟨_, _, he⟩ | exact he.elim | (obtain ⟨_, _, q⟩ := he; exact q.elim)
  all_goals (first
   | (obtain ⟨e, w'', he, _⟩ := hh.2 default [] (FF_room _ _); exact ⟨_, _, he⟩)
   | skip)
 | halt x w' => cases x <;> simp only [Oper.uponIn] at hh <;> exact hh.elim
section
variable {p : Par} {ro : Option Nat} {ops : Array Oper} {fl : Nat → Bool × Bool}
theorem stepOf_wp {j : Nat} {oj : Oper} (hj : ops[j]? = some oj) {ρ : Env} {σ : Sig} {K : AV → Sig → Prop} {a : Act} {w : World} {Q : Exit → Act → World → Prop} (h : stepOf p ops fl j ρ σ K) (r : Rel p.Γ w σ) (ha : Act.Is w σ ρ a) :
  wpOpIn (FF ro) 0 p.P ops Q j (AfterOp p.Γ σ K oj a w) a w := by
 simp only [stepOf, hj, ostep] at h
 obtain ⟨hw1, hw2⟩ := aguard_wanted ha h
 simp only [wpOpIn, hj]
 split
 ·rename_i hw
  exact aop_wp rfl r ha (aopX_aop (hw1 hw))
 ·rename_i hw
  exact ⟨fun _ _ => FF_fn _ _, undef, .v undef, σ, rfl, .v _, r, Ext.refl _ _, hw2 (by simpa using hw)⟩
theorem dst_lt {n : Nat} (hd : dstsOk n ops.toList = true) {j : Nat} {oj : Oper} (hj : ops[j]? = some oj) : ∀ t, oj.dst = some t → t < n := fun t ht => by
 have hm : oj ∈ ops.toList := List.mem_of_getElem? (by simpa using hj)
 have := List.all_eq_true.1 hd oj hm
 rw [ht] at this
 simpa using this
theorem stepOf_inh {j : Nat} {ρ : Env} {σ : Sig} {K : AV → Sig → Prop} {a : Act} {w : World} (h : stepOf p ops fl j ρ σ K) (r : Rel p.Γ w σ) (ha : Act.Is w σ ρ a) (hd : dstsOk a.tmps.size ops.toList = true) :
  ∃ x σ' a' w', K x σ' ∧ Rel p.Γ w' σ' ∧ Act.Is w' σ' (putOf ops j ρ x) a' ∧ dstsOk a'.tmps.size ops.toList = true := by
 cases hj : ops[j]? with
 | none => simp only [stepOf, hj] at h; exact ⟨.v undef, σ, a, w, h, r, by simpa only [putOf, hj] using ha, hd⟩
 | some oj =>
  have hw := stepOf_wp (ro := none) (Q := fun _ _ _ => False) hj h r ha
  simp only [wpOpIn, hj] at hw
  have hh : ∃ a' w', AfterOp p.Γ σ K oj a w a' w' := by
   split at hw
   ·exact wpIn_inh hw
   ·exact ⟨_, _, hw.2⟩
  obtain ⟨a', w', v, x, σ', h1, h2, h3, h4, h5⟩ := hh
  refine ⟨x, σ', a', w', h5, h3, ?_, by rw [h1, put_size]; exact hd⟩
  rw [h1]
  simp only [putOf, hj]
  exact Is_aput (ha.ext h4) h2 (dst_lt hd hj)
theorem never_D {j : Nat} {K : Env → Sig → Prop} {post : List Nat} : ∀ (pre : List Nat), (∀ i ∈ pre, Indep (stepOf p ops fl) (putOf ops) i j) → ∀ ρ σ a w, (∀ σ K, ¬ stepOf p ops fl j ρ σ K) → Rel p.Γ w σ → Act.Is w σ ρ a → dstsOk a.tmps.size ops.toList = true →
  ¬ seqS (stepOf p ops fl) (putOf ops) (pre ++ j :: post) K ρ σ
 | [], _, ρ, σ, a, w, hn, r, ha, hd, h => hn _ _ h
 | i :: pre, hi, ρ, σ, a, w, hn, r, ha, hd, h => by
  obtain ⟨x, σ', a', w', h1, h2, h3, h4⟩ := stepOf_inh (j := i) h r ha hd
  have hij := hi i (by simp)
  exact never_D pre (fun k hk => hi k (by simp [hk])) (putOf ops i ρ x) σ' a' w' (by rw [hij.right]; exact hn) h2 h3 h4 h1
def rest (n : Nat) (listed : Array Bool) : List Nat := (List.range n).filter fun i => !listed.getD i true
theorem rest_split {n : Nat} {listed : Array Bool} {j : Nat} (hs : listed.size = n) (hj : listed.getD j true = false) : ∃ pre post, rest n listed = pre ++ j :: post ∧ rest n (listed.setIfInBounds j true) = pre ++ post ∧ (∀ i ∈ pre, i < j) := by
 have hlt : j < n := by
  rcases Nat.lt_or_ge j listed.size with h | h
  ·omega
  ·simp [Array.getD_eq_getD_getElem?, Array.getElem?_eq_none h] at hj
 have hm : j ∈ rest n listed := by simp only [rest, List.mem_filter, List.mem_range]; exact ⟨hlt, by simp [hj]⟩
 obtain ⟨pre, post, hpp⟩ := List.append_of_mem hm
 have hpw : (rest n listed).Pairwise (· < ·) := (List.pairwise_lt_range).filter _
 have hpw' := hpw
 rw [hpp, List.pairwise_append] at hpw'
 obtain ⟨g1, g2, g3⟩ := hpw'
 rw [List.pairwise_cons] at g2
 refine ⟨pre, post, hpp, ?_, fun i hi => g3 i hi j (by simp)⟩
 have e : rest n (listed.setIfInBounds j true) = (rest n listed).filter fun i => i != j := by
  simp only [rest, List.filter_filter]
  refine List.filter_congr fun i hi => ?_
  by_cases hij : i = j
  ·subst hij; simp [Array.getD_eq_getD_getElem?, Array.getElem?_setIfInBounds, hs, hlt]
  ·simp [Array.getD_eq_getD_getElem?, Array.getElem?_setIfInBounds, Ne.symm hij, hij]
 rw [e, hpp, List.filter_append, List.filter_cons]
 have h1 : pre.filter (fun i => i != j) = pre := List.filter_eq_self.2 fun i hi => by have := g3 i hi j (by simp); simp; omega
 have h2 : post.filter (fun i => i != j) = post := List.filter_eq_self.2 fun i hi => by have := g2.1 i hi; simp; omega
 simp [h1, h2]
theorem wpOpIn_post {F : Fence} {n : Nat} {P : Program} {i : Nat} {a : Act} {w : World} {K K' : Act → World → Prop} {Q Q' : Exit → Act → World → Prop} (hk : ∀ a w, K a w → K' a w) (hq : ∀ e a w, Q e a w → Q' e a w)
  (h : wpOpIn F n P ops Q i K a w) : wpOpIn F n P ops Q' i K' a w := by
 unfold wpOpIn at *
 split
 ·rename_i hn; simp only [hn] at h; exact hk _ _ h
 ·rename_i o ho
  simp only [ho] at h
  split
  ·rename_i hw; simp only [hw, if_true] at h; exact wpIn_post hk hq h
  ·rename_i hw; simp only [hw] at h; exact ⟨h.1, hk _ _ h.2⟩
theorem wpAnyIn_post {F : Fence} {n : Nat} {P : Program} {md : Region.Mode} {Q Q' : Exit → Act → World → Prop} (hq : ∀ e a w, Q e a w → Q' e a w) : ∀ (fuel : Nat) (listed : Array Bool) (a : Act) (w : World), wpAnyIn F n P md ops Q fuel listed a w → wpAnyIn F n P md ops Q' fuel listed a w
 | 0, _, _, _, h => ⟨h.1, hq _ _ _ h.2⟩
 | fuel + 1, _, _, _, h => ⟨fun e => hq _ _ _ (h.1 e), fun i hi => wpOpIn_post (fun a w => wpAnyIn_post hq fuel _ a w) hq (h.2 i hi)⟩
theorem exists_minOf (f : Nat → Nat) : ∀ (l : List Nat), l ≠ [] → ∃ m ∈ l, ∀ k ∈ l, f m ≤ f k
 | [], h => absurd rfl h
 | [a], _ => ⟨a, by simp, by simp⟩
 | a :: b :: l, _ => by
  obtain ⟨m, hm, hmin⟩ := exists_minOf f (b :: l) (by simp)
  by_cases h : f a ≤ f m
  ·refine ⟨a, by simp, fun k hk => ?_⟩
   rcases List.mem_cons.1 hk with rfl | hk
   ·exact Nat.le_refl _
   ·exact Nat.le_trans h (hmin k hk)
  ·refine ⟨m, List.mem_cons_of_mem _ hm, fun k hk => ?_⟩
   rcases List.mem_cons.1 hk with rfl | hk
   ·omega
   ·exact hmin k hk
theorem adraw_any {bef : Nat → Nat} (hok : DrawOk p ops fl bef) {K : Env → Sig → Prop} {N : Nat} (hdst : dstsOk N ops.toList = true) :
  ∀ (fuel : Nat) (listed : Array Bool) (ρ : Env) (σ : Sig) (a : Act) (w : World), listed.size = ops.size → (rest ops.size listed).length = fuel →
   (∀ k i, k < ops.size → listed.getD k false = true → i < k → (bef k).testBit i = true → listed.getD i false = true) →
   seqS (stepOf p ops fl) (putOf ops) (rest ops.size listed) K ρ σ → Rel p.Γ w σ → Act.Is w σ ρ a → a.tmps.size = N →
   wpAnyIn (FF ro) 0 p.P .any ops (fun e a' w' => e = .normal ∧ After p.Γ w σ a K a' w') fuel listed a w
 | 0, listed, ρ, σ, a, w, hs, hf, hinv, h, r, ha, hN => by
  have hnil : rest ops.size listed = [] := List.eq_nil_of_length_eq_zero hf
  rw [hnil] at h
  refine ⟨?_, rfl, ⟨ρ, σ, h, r, ha, Ext.refl _ _⟩, rfl, rfl⟩
  refine List.eq_nil_iff_forall_not_mem.2 fun j hj => ?_
  obtain ⟨h0, o, ho, _⟩ := mem_ready.1 hj
  obtain ⟨pre, post, e, _⟩ := rest_split hs h0
  rw [hnil] at e
  simp at e
 | fuel + 1, listed, ρ, σ, a, w, hs, hf, hinv, h, r, ha, hN => by
  constructor
  ·intro hnil
   exfalso
   have hne : rest ops.size listed ≠ [] := fun e => by rw [e] at hf; cases hf
   obtain ⟨m, hm, hmin⟩ := exists_minOf (rkD ops) _ hne
   have hm' := hm
   simp only [rest, List.mem_filter, List.mem_range, Bool.not_eq_true'] at hm'
   obtain ⟨hm1, hm2⟩ := hm'
   have hready : m ∈ Region.ready .any ops listed := by
    refine mem_ready.2 ⟨hm2, ops[m], by simp [hm1], fun e he hb => ?_⟩
    obtain ⟨hlt, hrk⟩ := hok.less m hm1 e.on (by
     simp only [directOf]
     rw [Array.getElem?_eq_getElem hm1]
     exact List.mem_map.2 ⟨e, List.mem_filter.2 ⟨by simpa using he, hb⟩, rfl⟩)
    cases hl : listed.getD e.on false with
    | true => rfl
    | false =>
     have h2 : listed.getD e.on true = false := by
      have : e.on < listed.size := by omega
      simpa [Array.getD_eq_getD_getElem?, this] using hl
     have : e.on ∈ rest ops.size listed := by
      simp only [rest, List.mem_filter, List.mem_range, Bool.not_eq_true']
      exact ⟨hlt, h2⟩
     have := hmin _ this
     omega
   rw [hnil] at hready
   simp at hready
  ·intro j hj
   obtain ⟨h0, oj, hoj, hafter⟩ := mem_ready.1 hj
   obtain ⟨pre, post, e1, e2, hpre⟩ := rest_split hs h0
   have hjn : j < ops.size := (Array.getElem?_eq_some_iff.1 hoj).1
   have hlisted : ∀ i, i < j → (bef j).testBit i = true → listed.getD i false = true := fun i hij ht => by
    obtain ⟨k, hk, hkk⟩ := hok.pred j i hij hjn ht
    have hkl : listed.getD k false = true := by
     simp only [directOf, hoj] at hk
     obtain ⟨e, he, rfl⟩ := List.mem_map.1 hk
     obtain ⟨he1, he2⟩ := List.mem_filter.1 he
     exact hafter e (by simpa using he1) he2
    rcases hkk with rfl | ⟨hik, ht'⟩
    ·exact hkl
    ·exact hinv k i (hok.less j hjn k hk).1 hkl hik ht'
   have hun : ∀ i ∈ pre, Indep (stepOf p ops fl) (putOf ops) i j ∧ pairOk (kindOf p ops fl i) (kindOf p ops fl j) = true := fun i hi => by
    have hij := hpre i hi
    refine hok.free j i hij hjn ?_
    cases ht : (bef j).testBit i with
    | false => rfl
    | true =>
     have hl := hlisted i hij ht
     have hmem : i ∈ rest ops.size listed := by rw [e1]; simp [hi]
     simp only [rest, List.mem_filter, Bool.not_eq_true'] at hmem
     have h2 := hmem.2
     have : i < listed.size := by omega
     simp [Array.getD_eq_getD_getElem?, this] at hl h2
     rw [hl] at h2; cases h2
   rw [e1] at h
   have key : stepOf p ops fl j ρ σ fun x σ1 => seqS (stepOf p ops fl) (putOf ops) (pre ++ post) K (putOf ops j ρ x) σ1 := by
    by_cases hD : kindOf p ops fl j = .D
    ·have hc := stepOf_cls (p := p) (ops := ops) (fl := fl) j ρ
     rw [hD] at hc
     rcases hc with hn | ⟨x, hx⟩
     ·exact absurd h (never_D pre (fun i hi => (hun i hi).1) ρ σ a w hn r ha (by rw [hN]; exact hdst))
     ·exact (hx σ _).2 (pull_D stepOf_mono pre (fun i hi => (hun i hi).1) ρ σ hx h)
    ·exact pull_N stepOf_mono (kindOf p ops fl) stepOf_cls hD pre hun ρ σ r.fin h
   refine wpOpIn_mono (fun a' w' ⟨v, x, σ', g1, g2, g3, g4, g5⟩ => ?_) (stepOf_wp hoj key r ha)
   have ih := adraw_any hok hdst fuel (listed.setIfInBounds j true) (putOf ops j ρ x) σ' a' w' (by simpa using hs) (by
     have := congrArg List.length e1
     rw [e2]
     simp only [List.length_append, List.length_cons] at this ⊢
     omega) (fun k i hk hkl hik ht => ?_) (by rw [e2]; exact g5) g3 (by rw [g1]; simp only [putOf, hoj]; exact Is_aput (ha.ext g4) g2 (by rw [hN]; exact dst_lt hdst hoj)) (by rw [g1, put_size]; exact hN)
   ·refine wpAnyIn_post (fun e a'' w'' ⟨q1, q2⟩ => ⟨q1, ?_⟩) _ _ _ _ ih
    obtain ⟨ρ', σ'', k1, k2, k3, k4⟩ := q2.out
    refine ⟨⟨ρ', σ'', k1, k2, k3, g4.trans k4⟩, q2.defers.trans ?_, q2.size.trans ?_⟩
    ·rw [g1, put_defers]
    ·rw [g1, put_size]
   ·by_cases hkj : k = j
    ·subst hkj
     exact getD_set_true (hlisted i hik ht)
    ·rw [getD_set_ne false (Ne.symm hkj)] at hkl
     exact getD_set_true (hinv k i hk hkl hik ht)
def adops (p : Par) (all : List Oper) : List Oper → List Bool → List Bool → (Env → Sig → Prop) → Env → Sig → Prop
 | [], _, _, K, ρ, σ => K ρ σ
 | o :: rest, fl, xl, K, ρ, σ =>
  aguard all o.guard ρ (aopX p (fl.headD false) (xl.headD false) (!p.mz o.dst) (aev p.Γ ρ) σ o.op fun r σ' => adops p all rest fl.tail xl.tail K (aput ρ o.dst r) σ')
   (adops p all rest fl.tail xl.tail K (aput ρ o.dst (.v undef)) σ)
theorem adops_seqS {K : Env → Sig → Prop} {fs xs : List Bool} : ∀ (l : List Oper) (k : Nat) (fl' xl' : List Bool), ops.toList.drop k = l → fs.drop k = fl' → xs.drop k = xl' → ∀ ρ σ, adops p ops.toList l fl' xl' K ρ σ →
  seqS (stepOf p ops fun i => ((fs[i]?).getD false, (xs[i]?).getD false)) (putOf ops) (List.range' k l.length) K ρ σ
 | [], k, fl', xl', hk, hf, hx, ρ, σ, h => h
 | o :: l, k, fl', xl', hk, hf, hx, ρ, σ, h => by
  have ho : ops[k]? = some o := by
   have : ops.toList[k]? = some o := by
    have := congrArg (fun l => l[0]?) hk
    simpa [List.getElem?_drop] using this
   simpa using this
  have hk' : ops.toList.drop (k + 1) = l := by
   have := congrArg List.tail hk
   simpa using this
  have hf' : fs.drop (k + 1) = fl'.tail := by rw [← hf]; simp
  have hx' : xs.drop (k + 1) = xl'.tail := by rw [← hx]; simp
  have hfl : fl'.headD false = (fs[k]?).getD false := by
   rw [← hf, List.headD_eq_head?_getD, List.head?_drop]
  have hxl : xl'.headD false = (xs[k]?).getD false := by
   rw [← hx, List.headD_eq_head?_getD, List.head?_drop]
  simp only [List.length_cons, List.range'_succ, seqS]
  simp only [adops, hfl, hxl] at h
  have hst : stepOf p ops (fun i => ((fs[i]?).getD false, (xs[i]?).getD false)) k ρ = ostep p ops.toList ((fs[k]?).getD false) ((xs[k]?).getD false) o ρ := by simp only [stepOf, ho]
  have hpt : ∀ r, putOf ops k ρ r = aput ρ o.dst r := fun r => by simp only [putOf, ho]
  rw [hst]
  unfold ostep
  refine aguard_mono (fun h => aopX_mono (fun r σ' hh => ?_) h) (fun h => ?_) h
  ·rw [hpt]; exact adops_seqS l (k + 1) fl'.tail xl'.tail hk' hf' hx' _ _ hh
  ·dsimp only; rw [hpt]; exact adops_seqS l (k + 1) fl'.tail xl'.tail hk' hf' hx' _ _ h
theorem SemC.draw {id : Nat} {fs xs : List Bool} {bef : Nat → Nat} {N : Nat} {Q : Post} {ρ : Env} {σ : Sig} {ds : List Nat} (hm : p.P.follows .mixedOrders = true) (hd : dstsOk N ops.toList = true) (hok : drawOk p ops (fun i => ((fs[i]?).getD false, (xs[i]?).getD false)) bef = true)
  (h : adops p ops.toList ops.toList fs xs (fun ρ σ => Q .normal ρ σ ds) ρ σ) : SemC p ro N (.region id ops true) Q ρ σ ds := fun a w r ha hn hds => by
 refine wpIn_region_any hm ?_
 have r' : Rel p.Γ { w with drawn := w.drawn + 1 } σ := r.of_heap rfl rfl rfl rfl
 have e' : Ext w σ { w with drawn := w.drawn + 1 } σ := Ext.of_heap rfl rfl rfl rfl
 have hrest : rest ops.size (Array.replicate ops.size false) = List.range ops.size := List.filter_eq_self.2 fun i hi => by
  have := List.mem_range.1 hi
  simp [Array.getD_eq_getD_getElem?, this]
 have hseq := adops_seqS (p := p) (ops := ops) (fs := fs) (xs := xs) ops.toList 0 fs xs (by simp) (by simp) (by simp) ρ σ h
 rw [← List.range_eq_range', Array.length_toList] at hseq
 have := adraw_any (ro := ro) (drawOk_spec hok) hd ops.size (Array.replicate ops.size false) ρ σ a _ (by simp) (by rw [hrest]; simp) (fun k i hk hkl _ _ => by
  simp [Array.getD_eq_getD_getElem?, hk] at hkl) (by rw [hrest]; exact hseq) r' (ha.ext e') hn
 refine wpAnyIn_post (fun e a' w' ⟨h1, h2⟩ => ?_) _ _ _ _ this
 subst h1
 obtain ⟨ρ', σ', g1, g2, g3, g4⟩ := h2.out
 exact ⟨⟨ρ', σ', ds, g1, g2, g3, e'.trans g4, h2.defers.trans hds⟩, h2.size.trans hn⟩
end
end Go.AL
