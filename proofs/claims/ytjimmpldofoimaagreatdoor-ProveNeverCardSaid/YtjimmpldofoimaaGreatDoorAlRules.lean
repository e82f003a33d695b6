import Derived.Test.YtjimmpldofoimaaGreatDoorAlPar
set_option linter.unusedVariables false
set_option linter.unusedSimpArgs false
namespace Go.AL
section
variable {P : Program} {Γ : Glob} {f : FuncId} {a c args args' : List AV} {σ : Sig} {r : AV} {K : AV → Sig → Prop}
theorem callB_a (h : ACalls P Γ f args' σ K) (he : args' = a ++ args ++ c) : callB P Γ (.fn (.func f) a c) args σ K := by subst he; exact h
theorem callB_use (h : PCalls P Γ f args' r) (he : args' = a ++ args ++ c) (hk : K r σ) : callB P Γ (.fn (.func f) a c) args σ K := by subst he; exact h.use hk
theorem dcallB_use (h : PCalls P Γ f args' r) (he : args' = a ++ args ++ c) (hk : K r σ) : dcallB P Γ (.fn (.func f) a c) args σ K := by subst he; exact ⟨r, fun σ K hk => PCalls.use h hk, hk⟩
theorem dcall_of (h : PCalls P Γ f args' r) (he : args' = a ++ args ++ c) : DCall P Γ (.fn (.func f) a c) args r := by subst he; exact fun σ K hk => PCalls.use h hk
theorem callB_d {fv : AV} (h : DCall P Γ fv args r) (hk : K r σ) : callB P Γ fv args σ K := h σ K hk
theorem ACalls.fz {σ' : Sig} (hd : Drop σ σ') (hf : FzL σ σ' args args') (h : ACalls P Γ f args' σ' K) : ACalls P Γ f args σ K :=
 ⟨h.1, fun w vs r hv => by
  have := h.2 w vs (r.drop hd) (hf.rep r hd hv)
  refine ⟨this.1, fun cs hroom => ?_⟩
  obtain ⟨e, w', fr, ⟨v, x, σ2, g1, g2, g3, g4, g5⟩, hc⟩ := this.2 cs hroom
  exact ⟨e, w', fr, ⟨v, x, σ2, g1, g2, g3, (hd.ext w).trans g4, g5⟩, hc⟩⟩
theorem callB_fz (h : PCalls P Γ f args' r) (hf : FzL σ σ (a ++ args ++ c) args') (hk : K r σ) : callB P Γ (.fn (.func f) a c) args σ K :=
 ACalls.fz (Drop.refl σ) hf (h.use hk)
mutual
def AV.flat : AV → Bool
 | .v _ | .any | .e0 => true
 | .agg cs | .tup cs => AV.flatL cs
 | _ => false
def AV.flatL : List AV → Bool
 | [] => true
 | c :: cs => AV.flat c && AV.flatL cs
end
mutual
theorem Rep.flat {w w' : World} {σ σ' : Sig} : ∀ {a : AV} {v : Value}, a.flat = true → Rep w σ a v → Rep w' σ' a v
 | _, _, _, .v x => .v x
 | _, _, _, .any x => .any x
 | _, _, h, .agg h' => .agg (Reps.flat (by simpa [AV.flat] using h) h')
 | _, _, h, .tup h' => .tup (Reps.flat (by simpa [AV.flat] using h) h')
 | _, _, h, .slnil => by simp [AV.flat] at h
 | _, _, h, .sl _ _ _ => by simp [AV.flat] at h
 | _, _, _, .e0 a => .e0 a
 | _, _, h, .own _ _ _ _ => by simp [AV.flat] at h
 | _, _, h, .pp _ _ => by simp [AV.flat] at h
 | _, _, h, .fn _ _ => by simp [AV.flat] at h
theorem Reps.flat {w w' : World} {σ σ' : Sig} : ∀ {cs : List AV} {vs : List Value}, AV.flatL cs = true → Reps w σ cs vs → Reps w' σ' cs vs
 | _, _, _, .nil => .nil
 | _, _, h, .cons h1 h2 => by
  simp only [AV.flatL, Bool.and_eq_true] at h
  exact .cons (Rep.flat h.1 h1) (Reps.flat h.2 h2)
end
def noB : Sig := fun _ => none
theorem Drop.noB (σ : Sig) : Drop σ noB := fun _ => .inl rfl
theorem ACalls.bor (h : PCalls P Γ f args' r) (hr : r.flat = true) (hf : FzL σ noB args args') (hk : K r σ) : ACalls P Γ f args σ K :=
 ⟨(h noB).1, fun w vs rel hv => by
  have hd := Drop.noB σ
  have := (h noB).2 w vs (rel.drop hd) (hf.rep rel hd hv)
  refine ⟨this.1, fun cs hroom => ?_⟩
  obtain ⟨e, w', fr, ⟨v, x, σ2, g1, g2, g3, g4, rfl, rfl⟩, hc⟩ := this.2 cs hroom
  have hE : Ext w σ w' σ := ⟨g4.size, fun b hb hs => ⟨(g4.keep b hb rfl).1, hs⟩, fun b hb cs s c hh => ⟨cs, hh⟩, g4.os, g4.tape, g4.output⟩
  have hR : Rel Γ w' σ := by
   refine ⟨fun b x hx => ?_, fun g cs hg => ?_⟩
   ·obtain ⟨h1, h2⟩ := rel.blk b x hx
    exact ⟨Nat.lt_of_lt_of_le h1 g4.size, h2.ext hE (g4.keep b h1 rfl).1⟩
   ·obtain ⟨vs, h1, h2⟩ := rel.glob g cs hg
    exact ⟨vs, h1.ext hE, h2.ext hE⟩
  exact ⟨e, w', fr, ⟨v, x, σ, g1, g2.flat hr, hR, hE, hk⟩, hc⟩⟩
theorem callB_bor (h : PCalls P Γ f args' r) (hr : r.flat = true) (hf : FzL σ noB (a ++ args ++ c) args') (hk : K r σ) : callB P Γ (.fn (.func f) a c) args σ K :=
 ACalls.bor h hr hf hk
end
theorem callB_drop {P : Program} {Γ : Glob} {f : FuncId} {a c args args' : List AV} {σ σ' : Sig} {r : AV} {K : AV → Sig → Prop} (hd : Drop σ σ') (h : PCalls P Γ f args' r) (hf : FzL σ σ' (a ++ args ++ c) args') (hk : K r σ') : callB P Γ (.fn (.func f) a c) args σ K :=
 ACalls.fz hd hf (h.use hk)
theorem Drop.free {σ σ' : Sig} {b : Nat} (h : Drop σ' σ) (hb : σ' b = none) : σ b = none := by rcases h b with h | h <;> simp [h, hb]
theorem Drop.upd {σ σ' : Sig} {b : Nat} {x : Option Blk} (h : Drop σ' σ) (hb : σ b = none) : Drop (upd σ' b x) σ := fun i => by
 by_cases hi : i = b
 ·subst hi; exact .inl hb
 ·simp only [AL.upd, hi, if_false]; exact h i
def Grow (σ0 σ : Sig) (s : Nat) (a : AV) (cs : List AV) (n : Nat) : Prop :=
 ((a = .v (.slice none 0 0) ∨ a = .e0) ∧ cs = [] ∧ n = 0) ∨ ∃ b c, a = .own b s 0 n ∧ σ0 b = none ∧ σ b = some (.row cs s c) ∧ cs.length = n * s
theorem Grow.nil (σ0 σ : Sig) (s : Nat) : Grow σ0 σ s (.v (.slice none 0 0)) [] 0 := .inl ⟨.inl rfl, rfl, rfl⟩
theorem Grow.e0 (σ0 σ : Sig) (s : Nat) : Grow σ0 σ s .e0 [] 0 := .inl ⟨.inr rfl, rfl, rfl⟩
theorem Grow.retP {σ0 σ : Sig} {s n : Nat} {a : AV} {cs : List AV} (h : Grow σ0 σ s a cs n) (hd : Drop σ σ0) : retP σ0 (.sl cs n) a σ := by
 refine ⟨?_, hd⟩
 rcases h with ⟨h, rfl, rfl⟩ | ⟨b, c, rfl, h1, h2, h3⟩
 ·rcases h with rfl | rfl
  ·exact .nil
  ·exact .e0
 ·refine .own h2 h1 ?_
  have : (cs.drop (0 * s)).take (n * s) = cs := by simp [← h3]
  rw [this]
  exact .refl cs
theorem Grow.frame {σ0 σ σ' : Sig} {s n : Nat} {a : AV} {cs : List AV} (h : Grow σ0 σ s a cs n) (hf : ∀ b, σ0 b = none → σ b ≠ none → σ' b = σ b) : Grow σ0 σ' s a cs n := by
 rcases h with h | ⟨b, c, h0, h1, h2, h3⟩
 ·exact .inl h
 ·exact .inr ⟨b, c, h0, h1, by rw [hf b h1 (by rw [h2]; simp)]; exact h2, h3⟩
theorem Grow.upd {σ0 σ : Sig} {s n b : Nat} {a : AV} {cs : List AV} {x : Option Blk} (h : Grow σ0 σ s a cs n) (hb : σ b = none) : Grow σ0 (upd σ b x) s a cs n :=
 h.frame fun i _ hn => by
  by_cases hi : i = b
  ·subst hi; exact absurd hb hn
  ·simp [AL.upd, hi]
def Others (a : AV) (σ σ' : Sig) : Prop := ∀ b, (∀ s o n, a ≠ .own b s o n) → σ b ≠ none → σ' b = σ b
theorem appB_grow {P : Program} {Γ : Glob} {σ0 σ : Sig} {t0 t1 : TypeId} {k : TK} {bytes : Nat} (hT : AppT P t0 t1 k bytes) {a x : AV} {cs xs : List AV} {m n : Nat} (hd : Drop σ σ0) (hg : Grow σ0 σ k.size a cs m) (hx : Src σ k.size x xs n)
  (hone : xs.all AV.one = true) (hsum : (m + n) * bytes ≤ 140737488355328) {K : AV → Sig → Prop} (hk : ∀ a' σ', Drop σ' σ0 → Others a σ σ' → Grow σ0 σ' k.size a' (cs ++ xs) (m + n) → K a' σ')
  (hxl : xs.length = n * k.size) : appB P Γ σ t0 t1 a x K := by
 intro ty
 rcases hg with ⟨ha, rfl, rfl⟩ | ⟨b, c, rfl, h1, h2, h3⟩
 ·refine append_new hT ha hx (by simpa using hsum) (fun hn => ?_) (fun hn b c hb hc => ?_)
  ·subst hn
   have : xs = [] := List.eq_nil_of_length_eq_zero (by simpa using hxl)
   subst this
   exact hk _ _ hd (fun _ _ _ => rfl) (.inl ⟨ha, rfl, rfl⟩)
  ·have h0 : σ0 b = none := by rcases hd b with h | h <;> simp [h, hb]
   refine hk _ _ (fun i => ?_) (fun i _ hi => ?_) (.inr ⟨b, c, by simp, h0, by simp [upd], by simpa using hxl⟩)
   ·by_cases hi : i = b
    ·subst hi; exact .inl h0
    ·simp [upd, hi]; exact hd i
   ·by_cases hib : i = b
    ·subst hib; exact absurd hb hi
    ·simp [upd, hib]
 ·refine append_own hT h2 (by simp [h3]) hx hone hsum fun b' off' c' pre hpre hoff hb' => ?_
  have : off' = 0 := hoff rfl
  subst this
  have hp0 : pre = [] := List.eq_nil_of_length_eq_zero (by simpa using hpre)
  subst hp0
  have hcs : (cs.drop (0 * k.size)).take (m * k.size) = cs := by simp [← h3]
  rw [hcs]
  have hb0 : σ0 b' = none := by
   rcases hb' with rfl | hb'
   ·exact h1
   ·rcases hd b' with h | h <;> simp [h, hb']
  refine hk _ _ (fun i => ?_) (fun i hi hn => ?_) (.inr ⟨b', c', rfl, hb0, by simp [upd], by simp [h3, hxl, Nat.add_mul]⟩)
  ·by_cases hi : i = b'
   ·subst hi; exact .inl hb0
   ·by_cases hib : i = b
    ·subst hib; exact .inl h1
    ·simp [upd, hi, ers, hib]; exact hd i
  ·have hib : i ≠ b := fun e => hi k.size 0 m (by rw [e])
   have hib' : i ≠ b' := by
    rcases hb' with rfl | hb'
    ·exact hib
    ·intro e; subst e; exact hn hb'
   simp [upd, hib', ers, hib]
theorem appB_sl {P : Program} {Γ : Glob} {σ0 σ : Sig} {t0 t1 : TypeId} {k : TK} {bytes : Nat} (hT : AppT P t0 t1 k bytes) {a : AV} {cs xs : List AV} {m n : Nat} (hd : Drop σ σ0) (hg : Grow σ0 σ k.size a cs m)
  (hone : xs.all AV.one = true) (hxl : xs.length = n * k.size) (hsum : (m + n) * bytes ≤ 140737488355328) {K : AV → Sig → Prop} (hk : ∀ a' σ', Drop σ' σ0 → Others a σ σ' → Grow σ0 σ' k.size a' (cs ++ xs) (m + n) → K a' σ') : appB P Γ σ t0 t1 a (.sl xs n) K :=
 appB_grow (x := .sl xs n) hT hd hg ⟨rfl, rfl, hxl⟩ hone hsum hk hxl
theorem appB_pure {P : Program} {Γ : Glob} {σ : Sig} {t0 t1 : TypeId} {k : TK} {bytes : Nat} (hT : AppT P t0 t1 k bytes) {s x : AV} (hs : s = .v (.slice none 0 0) ∨ s = .e0) {xs : List AV} {n : Nat} (hx : Src σ k.size x xs n) (hxl : xs.length = n * k.size) (hsum : n * bytes ≤ 140737488355328) {K : AV → Sig → Prop} (hk : K (.sl xs n) σ) : appB P Γ σ t0 t1 s x K := by
 intro ty w vs r hv
 have h := append_new (P := P) (Γ := Γ) (ty := ty) hT hs hx hsum (K := fun a σ' => Drop σ' σ ∧ Fz σ' σ a (.sl xs n)) (fun hn => ?_) (fun hn b c hb hc => ?_)
 ·obtain ⟨v, w', a, σ', h1, h2, h3, h4, h5, h6⟩ := h w vs r hv
  exact ⟨v, w', _, σ, h1, h6.rep h3 h5 h2, h3.drop h5, h4.trans (h5.ext _), hk⟩
 ·subst hn
  have : xs = [] := List.eq_nil_of_length_eq_zero (by simpa using hxl)
  subst this
  refine ⟨Drop.refl σ, ?_⟩
  rcases hs with rfl | rfl
  ·exact .nil
  ·exact .e0
 ·refine ⟨(Drop.refl σ).upd hb, .own (upd_same _ _ _) hb ?_⟩
  have : (xs.drop (0 * k.size)).take (n * k.size) = xs := by simp [← hxl]
  rw [this]
  exact .refl xs
section
variable {α : Type} {f : α → List AV} {l : List α} {i j s : Nat} {x : α}
theorem rows_length (hs : ∀ x, (f x).length = s) : (l.flatMap f).length = l.length * s := by
 induction l with
 | nil => simp
 | cons y l ih => simp [ih, hs, Nat.add_mul, Nat.add_comm]
theorem rows_split (hs : ∀ x, (f x).length = s) (h : l[i]? = some x) : (l.flatMap f).drop (i * s) = f x ++ (l.drop (i + 1)).flatMap f := by
 induction l generalizing i with
 | nil => simp at h
 | cons y l ih =>
  cases i with
  | zero => simp at h; subst h; simp
  | succ i =>
   simp only [List.getElem?_cons_succ] at h
   have := ih h
   rw [List.flatMap_cons, Nat.add_mul, Nat.one_mul, Nat.add_comm, ← List.drop_drop]
   rw [List.drop_left' (hs y)]
   simpa using this
theorem part_rows {k : TK} (hk : k.agg = true) (hs : ∀ x, (f x).length = k.size) (h : l[i]? = some x) : k.part (l.flatMap f) (i * k.size) = some (.agg (f x)) := by
 have hlt : i < l.length := by
  rcases Nat.lt_or_ge i l.length with h' | h'
  ·exact h'
  ·simp [List.getElem?_eq_none h'] at h
 unfold TK.part
 rw [if_pos hk, if_pos, rows_split hs h, List.take_left' (hs x)]
 rw [rows_length hs, ← Nat.succ_mul]
 exact Nat.mul_le_mul_right _ hlt
theorem rows_get (hs : ∀ x, (f x).length = s) (h : l[i]? = some x) (hj : j < s) : (l.flatMap f)[i * s + j]? = (f x)[j]? := by
 rw [← List.getElem?_drop, rows_split hs h, List.getElem?_append_left (by rw [hs]; exact hj)]
theorem rows_get0 (hs : ∀ x, (f x).length = s) (h : l[i]? = some x) (hj : 0 < s) : (l.flatMap f)[i * s]? = (f x)[0]? := rows_get (j := 0) hs h hj
end
end Go.AL
