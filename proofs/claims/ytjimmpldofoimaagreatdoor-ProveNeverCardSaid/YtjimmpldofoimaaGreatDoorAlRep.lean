import Derived.RangeFuncLeaves
import Derived.RangeFuncIn
import Derived.RangeFuncRecord
import Derived.RangeFuncCalls
import Derived.Orders
set_option linter.unusedVariables false
set_option linter.unusedSimpArgs false
namespace Go.AL
inductive AV where
 | v (x : Value)
 | any
 | agg (cs : List AV)
 | tup (cs : List AV)
 | sl (cs : List AV) (n : Nat)
 | e0
 | own (b s off n : Nat)
 | pp (cs : List AV) (off : Nat)
 | fn (f : Fn) (first captured : List AV)
 deriving Inhabited
inductive Blk where
 | row (cs : List AV) (size cap : Nat)
 | map (es : List (AV × AV))
 | obj (o : Obj)
 /-- A variable that is told with its type. -/
 | var (cs : List AV) (el : TypeId)
 /-- The record of a range over a function; what its slots hold. -/
 | loop (l : Loop) (cs : List AV)
abbrev Sig := Nat → Option Blk
abbrev Env := Nat → AV
def upd {α : Type} (f : Nat → α) (k : Nat) (x : α) : Nat → α := fun i => if i = k then x else f i
theorem upd_same {α : Type} (f : Nat → α) (k : Nat) (x : α) : upd f k x k = x := by simp [upd]
theorem upd_ne {α : Type} (f : Nat → α) (k : Nat) (x : α) (i : Nat) (h : i ≠ k) : upd f k x i = f i := by simp [upd, h]
theorem upd_upd {α : Type} (f : Nat → α) (k : Nat) (x y : α) : upd (upd f k x) k y = upd f k y := by
 funext i; simp only [upd]; split <;> rfl
theorem upd_comm {α : Type} (f : Nat → α) (k j : Nat) (x y : α) (h : k ≠ j) : upd (upd f k x) j y = upd (upd f j y) k x := by
 funext i; simp only [upd]; split <;> split <;> simp_all
def RunAt (w : World) (σ : Sig) (a : Addr) (vs : List Value) : Prop :=
 vs ≠ [] → a.block < w.heap.size ∧ σ a.block = none ∧ ∀ i v, vs[i]? = some v → w.cell? (a.add i) = some v
mutual
inductive Rep (w : World) (σ : Sig) : AV → Value → Prop
 | v (x : Value) : Rep w σ (.v x) x
 | any (x : Value) : Rep w σ .any x
 | agg {cs : List AV} {vs : List Value} (h : Reps w σ cs vs) : Rep w σ (.agg cs) (.agg vs.toArray)
 | tup {cs : List AV} {vs : List Value} (h : Reps w σ cs vs) : Rep w σ (.tup cs) (.tuple vs.toArray)
 | slnil : Rep w σ (.sl [] 0) (.slice none 0 0)
 | sl {cs : List AV} {vs : List Value} {n : Nat} {a : Addr} {cap : Nat} (h : Reps w σ cs vs) (hr : RunAt w σ a vs) (hn : n ≤ cap) : Rep w σ (.sl cs n) (.slice (some a) n cap)
 | e0 (a : Option Addr) : Rep w σ .e0 (.slice a 0 0)
 | own {b s off n : Nat} {a : Addr} {cap : Nat} (hb : b < w.heap.size) (hn : n ≤ cap) (ha : cap ≠ 0 → a = ⟨b, off * s, none⟩)
   (h : ∀ cs s' c, σ b = some (.row cs s' c) → s' = s ∧ cap + off = c) : Rep w σ (.own b s off n) (.slice (some a) n cap)
 | pp {cs : List AV} {vs : List Value} {off : Nat} {a : Addr} (h : Reps w σ cs vs) (hr : RunAt w σ a vs) : Rep w σ (.pp cs off) (.pointer (some (a.add off)))
 | fn {f : Fn} {first captured : List AV} {vs us : List Value} (h : Reps w σ first vs) (h' : Reps w σ captured us) : Rep w σ (.fn f first captured) (.func f vs.toArray us.toArray)
inductive Reps (w : World) (σ : Sig) : List AV → List Value → Prop
 | nil : Reps w σ [] []
 | cons {c : AV} {v : Value} {cs : List AV} {vs : List Value} (h : Rep w σ c v) (h' : Reps w σ cs vs) : Reps w σ (c :: cs) (v :: vs)
end
structure Ext (w : World) (σ : Sig) (w' : World) (σ' : Sig) : Prop where
 size : w.heap.size ≤ w'.heap.size
 keep : ∀ b, b < w.heap.size → σ b = none → w'.heap[b]? = w.heap[b]? ∧ σ' b = none
 rows : ∀ b, b < w.heap.size → ∀ cs s c, σ' b = some (.row cs s c) → ∃ cs, σ b = some (.row cs s c)
 os : w'.os = w.os
 tape : w'.tape = w.tape
 output : w'.output = w.output
theorem Ext.refl (w : World) (σ : Sig) : Ext w σ w σ :=
 ⟨Nat.le_refl _, fun _ _ h => ⟨rfl, h⟩, fun _ _ cs _ _ h => ⟨cs, h⟩, rfl, rfl, rfl⟩
theorem Ext.trans {w w1 w2 : World} {σ σ1 σ2 : Sig} (h : Ext w σ w1 σ1) (k : Ext w1 σ1 w2 σ2) : Ext w σ w2 σ2 where
 size := Nat.le_trans h.size k.size
 keep b hb hs := by
  obtain ⟨e1, s1⟩ := h.keep b hb hs
  obtain ⟨e2, s2⟩ := k.keep b (Nat.lt_of_lt_of_le hb h.size) s1
  exact ⟨e2.trans e1, s2⟩
 rows b hb cs s c h2 := by
  obtain ⟨cs1, h1⟩ := k.rows b (Nat.lt_of_lt_of_le hb h.size) cs s c h2
  exact h.rows b hb cs1 s c h1
 os := k.os.trans h.os
 tape := k.tape.trans h.tape
 output := k.output.trans h.output
theorem cell?_of_block {w w' : World} {a : Addr} (h : w'.heap[a.block]? = w.heap[a.block]?) : w'.cell? a = w.cell? a := by simp [World.cell?, h]
theorem add_block (a : Addr) (n : Nat) : (a.add n).block = a.block := by unfold Addr.add; split <;> rfl
theorem add_add (a : Addr) (m n : Nat) : (a.add m).add n = a.add (m + n) := by
 unfold Addr.add; split <;> split <;> simp_all <;> omega
theorem RunAt.ext {w w' : World} {σ σ' : Sig} {a : Addr} {vs : List Value} (h : RunAt w σ a vs) (e : Ext w σ w' σ') : RunAt w' σ' a vs := fun hne => by
 obtain ⟨h1, h2, h3⟩ := h hne
 obtain ⟨e1, e2⟩ := e.keep _ h1 h2
 refine ⟨Nat.lt_of_lt_of_le h1 e.size, e2, fun i v hi => ?_⟩
 rw [cell?_of_block (w := w) (w' := w') (by rw [add_block]; exact e1)]
 exact h3 i v hi
mutual
theorem Rep.ext {w w' : World} {σ σ' : Sig} (e : Ext w σ w' σ') : ∀ {a : AV} {v : Value}, Rep w σ a v → Rep w' σ' a v
 | _, _, .v x => .v x
 | _, _, .any x => .any x
 | _, _, .agg h => .agg (Reps.ext e h)
 | _, _, .tup h => .tup (Reps.ext e h)
 | _, _, .slnil => .slnil
 | _, _, .sl h hr hn => .sl (Reps.ext e h) (hr.ext e) hn
 | _, _, .e0 a => .e0 a
 | _, _, .own (b := b) hb hn ha h => .own (Nat.lt_of_lt_of_le hb e.size) hn ha fun cs s c hs => by
   obtain ⟨cs', h'⟩ := e.rows b hb cs s c hs
   exact h cs' s c h'
 | _, _, .pp h hr => .pp (Reps.ext e h) (hr.ext e)
 | _, _, .fn h h' => .fn (Reps.ext e h) (Reps.ext e h')
theorem Reps.ext {w w' : World} {σ σ' : Sig} (e : Ext w σ w' σ') : ∀ {cs : List AV} {vs : List Value}, Reps w σ cs vs → Reps w' σ' cs vs
 | _, _, .nil => .nil
 | _, _, .cons h h' => .cons (Rep.ext e h) (Reps.ext e h')
end
section
variable {w : World} {σ : Sig}
theorem Reps.length {cs : List AV} {vs : List Value} (h : Reps w σ cs vs) : cs.length = vs.length := by
 induction cs generalizing vs with
 | nil => cases h; rfl
 | cons c cs ih => cases h with | cons _ h' => simp [ih h']
theorem Reps.get {cs : List AV} {vs : List Value} (h : Reps w σ cs vs) (i : Nat) (c : AV) (hc : cs[i]? = some c) : ∃ v, vs[i]? = some v ∧ Rep w σ c v := by
 induction cs generalizing vs i with
 | nil => simp at hc
 | cons c0 cs ih =>
  cases h with
  | cons h0 h' =>
   cases i with
   | zero => simp at hc; subst hc; exact ⟨_, rfl, h0⟩
   | succ i => simp at hc; simpa using ih h' i hc
theorem Reps.append {cs cs' : List AV} {vs vs' : List Value} (h : Reps w σ cs vs) (h' : Reps w σ cs' vs') : Reps w σ (cs ++ cs') (vs ++ vs') := by
 induction cs generalizing vs with
 | nil => cases h; exact h'
 | cons c cs ih => cases h with | cons h0 h1 => exact .cons h0 (ih h1)
theorem Reps.drop {cs : List AV} {vs : List Value} (h : Reps w σ cs vs) (n : Nat) : Reps w σ (cs.drop n) (vs.drop n) := by
 induction n generalizing cs vs with
 | zero => simpa using h
 | succ n ih =>
  cases h with
  | nil => simpa using Reps.nil
  | cons h0 h1 => simpa using ih h1
theorem Reps.take {cs : List AV} {vs : List Value} (h : Reps w σ cs vs) (n : Nat) : Reps w σ (cs.take n) (vs.take n) := by
 induction n generalizing cs vs with
 | zero => simpa using Reps.nil
 | succ n ih =>
  cases h with
  | nil => simpa using Reps.nil
  | cons h0 h1 => simpa using .cons h0 (ih h1)
theorem Reps.set {cs : List AV} {vs : List Value} (h : Reps w σ cs vs) (i : Nat) {c : AV} {v : Value} (hc : Rep w σ c v) : Reps w σ (cs.set i c) (vs.set i v) := by
 induction cs generalizing vs i with
 | nil => cases h; simpa using Reps.nil
 | cons c0 cs ih =>
  cases h with
  | cons h0 h1 =>
   cases i with
   | zero => simpa using .cons hc h1
   | succ i => simpa using .cons h0 (ih h1 i)
theorem Reps.split {cs cs' : List AV} {vs : List Value} (h : Reps w σ (cs ++ cs') vs) : ∃ vs1 vs2, vs = vs1 ++ vs2 ∧ Reps w σ cs vs1 ∧ Reps w σ cs' vs2 :=
 ⟨vs.take cs.length, vs.drop cs.length, (List.take_append_drop _ _).symm, by simpa using h.take cs.length, by simpa using h.drop cs.length⟩
theorem Reps.vs (l : List Value) : Reps w σ (l.map .v) l := by
 induction l with
 | nil => exact .nil
 | cons x l ih => exact .cons (.v x) ih
theorem Reps.replicate {c : AV} {v : Value} (h : Rep w σ c v) (n : Nat) : Reps w σ (List.replicate n c) (List.replicate n v) := by
 induction n with
 | zero => exact .nil
 | succ n ih => exact .cons h ih
end
def BlkRep (w : World) (σ : Sig) (b : Nat) : Blk → Prop
 | .row cs s c => ∃ vs rest el, w.heap[b]? = some (.cells (vs ++ rest).toArray el (0, 0)) ∧ Reps w σ cs vs ∧ (vs ++ rest).length = c * s
 | .map es => ∃ ents clock, w.heap[b]? = some (.map ents clock) ∧ Reps w σ (es.map (·.1)) (ents.toList.map (·.key)) ∧ Reps w σ (es.map (·.2)) (ents.toList.map (·.val))
 | .obj o => w.heap[b]? = some o
 | .var cs el => ∃ vs, w.heap[b]? = some (.cells vs.toArray el (0, 0)) ∧ Reps w σ cs vs
 | .loop l cs => w.heap[b]? = some (.loop l) ∧ Reps w σ cs l.tmps.toList
abbrev Glob := Nat → Option (List AV)
def GlobAt (w : World) (σ : Sig) (g : Nat) (vs : List Value) : Prop := g < w.heap.size ∧ σ g = none ∧ ∃ el fz, w.heap[g]? = some (.cells vs.toArray el fz)
theorem GlobAt.ext {w w' : World} {σ σ' : Sig} {g : Nat} {vs : List Value} (h : GlobAt w σ g vs) (e : Ext w σ w' σ') : GlobAt w' σ' g vs := by
 obtain ⟨h1, h2, el, fz, h3⟩ := h
 obtain ⟨e1, e2⟩ := e.keep g h1 h2
 exact ⟨Nat.lt_of_lt_of_le h1 e.size, e2, el, fz, e1.trans h3⟩
theorem GlobAt.run {w : World} {σ : Sig} {g : Nat} {vs : List Value} (h : GlobAt w σ g vs) : RunAt w σ ⟨g, 0, none⟩ vs := fun _ => by
 obtain ⟨h1, h2, el, fz, h3⟩ := h
 refine ⟨h1, h2, fun i v hi => ?_⟩
 have : (⟨g, 0, none⟩ : Addr).add i = ⟨g, i, none⟩ := by unfold Addr.add; split <;> simp_all
 rw [this]
 simp [World.cell?, h3, hi]
structure Rel (Γ : Glob) (w : World) (σ : Sig) : Prop where
 blk : ∀ b x, σ b = some x → b < w.heap.size ∧ BlkRep w σ b x
 glob : ∀ g cs, Γ g = some cs → ∃ vs, Reps w σ cs vs ∧ GlobAt w σ g vs
theorem BlkRep.ext {w w' : World} {σ σ' : Sig} (e : Ext w σ w' σ') {b : Nat} (hb : w'.heap[b]? = w.heap[b]?) : ∀ {x : Blk}, BlkRep w σ b x → BlkRep w' σ' b x
 | .row cs s c, ⟨vs, rest, el, h1, h2, h3⟩ => ⟨vs, rest, el, hb.trans h1, h2.ext e, h3⟩
 | .map es, ⟨ents, clock, h1, h2, h3⟩ => ⟨ents, clock, hb.trans h1, h2.ext e, h3.ext e⟩
 | .obj o, h => hb.trans h
 | .var cs el, ⟨vs, h1, h2⟩ => ⟨vs, hb.trans h1, h2.ext e⟩
 | .loop l cs, ⟨h1, h2⟩ => ⟨hb.trans h1, h2.ext e⟩
theorem Ext.of_heap {w w' : World} {σ : Sig} (h : w'.heap = w.heap) (ho : w'.os = w.os) (ht : w'.tape = w.tape) (hp : w'.output = w.output) : Ext w σ w' σ :=
 ⟨by rw [h]; exact Nat.le_refl _, fun b _ hs => ⟨by rw [h], hs⟩, fun b _ cs s c hh => ⟨cs, hh⟩, ho, ht, hp⟩
theorem Rel.of_heap {Γ : Glob} {w w' : World} {σ : Sig} (r : Rel Γ w σ) (h : w'.heap = w.heap) (ho : w'.os = w.os) (ht : w'.tape = w.tape) (hp : w'.output = w.output) : Rel Γ w' σ := by
 have e : Ext w σ w' σ := .of_heap h ho ht hp
 refine ⟨fun b x hx => ?_, fun g cs hg => ?_⟩
 ·obtain ⟨h1, h2⟩ := r.blk b x hx
  exact ⟨by rw [h]; exact h1, h2.ext e (by rw [h])⟩
 ·obtain ⟨vs, h1, h2⟩ := r.glob g cs hg
  exact ⟨vs, h1.ext e, h2.ext e⟩
theorem Ext.alloc {w : World} {σ : Sig} (o : Obj) (x : Blk) (hσ : σ w.heap.size = none) : Ext w σ { w with heap := w.heap.push o } (upd σ w.heap.size x) where
 size := by simp
 keep b hb hs := ⟨by simp [Array.getElem?_push, Nat.ne_of_lt hb], by rw [upd_ne _ _ _ _ (Nat.ne_of_lt hb)]; exact hs⟩
 rows b hb cs s c h := ⟨cs, by rwa [upd_ne _ _ _ _ (Nat.ne_of_lt hb)] at h⟩
 os := rfl
 tape := rfl
 output := rfl
theorem Ext.allocPure {w : World} {σ : Sig} (o : Obj) : Ext w σ { w with heap := w.heap.push o } σ where
 size := by simp
 keep b hb hs := ⟨by simp [Array.getElem?_push, Nat.ne_of_lt hb], hs⟩
 rows b hb cs s c h := ⟨cs, h⟩
 os := rfl
 tape := rfl
 output := rfl
theorem Rel.fresh {Γ : Glob} {w : World} {σ : Sig} (r : Rel Γ w σ) : σ w.heap.size = none := by
 cases h : σ w.heap.size with
 | none => rfl
 | some x => exact absurd (r.blk _ _ h).1 (Nat.lt_irrefl _)
theorem Rel.alloc {Γ : Glob} {w : World} {σ : Sig} (r : Rel Γ w σ) (o : Obj) (x : Blk)
  (hx : BlkRep { w with heap := w.heap.push o } (upd σ w.heap.size x) w.heap.size x) : Rel Γ { w with heap := w.heap.push o } (upd σ w.heap.size x) := by
 have e := Ext.alloc o x r.fresh
 refine ⟨fun b y hy => ?_, fun g cs hg => ?_⟩
 ·by_cases hb : b = w.heap.size
  ·subst hb
   rw [upd_same] at hy
   obtain rfl := Option.some.inj hy
   exact ⟨by simp, hx⟩
  ·rw [upd_ne _ _ _ _ hb] at hy
   obtain ⟨h1, h2⟩ := r.blk b y hy
   exact ⟨Nat.lt_of_lt_of_le h1 e.size, h2.ext e (by simp [Array.getElem?_push, Nat.ne_of_lt h1])⟩
 ·obtain ⟨vs, h1, h2⟩ := r.glob g cs hg
  exact ⟨vs, h1.ext e, h2.ext e⟩
theorem Rel.allocPure {Γ : Glob} {w : World} {σ : Sig} (r : Rel Γ w σ) (o : Obj) : Rel Γ { w with heap := w.heap.push o } σ := by
 have e := Ext.allocPure (w := w) (σ := σ) o
 refine ⟨fun b y hy => ?_, fun g cs hg => ?_⟩
 ·obtain ⟨h1, h2⟩ := r.blk b y hy
  exact ⟨Nat.lt_of_lt_of_le h1 e.size, h2.ext e (by simp [Array.getElem?_push, Nat.ne_of_lt h1])⟩
 ·obtain ⟨vs, h1, h2⟩ := r.glob g cs hg
  exact ⟨vs, h1.ext e, h2.ext e⟩
structure Wr (w w' : World) (b : Nat) : Prop where
 size : w'.heap.size = w.heap.size
 other : ∀ k, k ≠ b → w'.heap[k]? = w.heap[k]?
 os : w'.os = w.os
 tape : w'.tape = w.tape
 output : w'.output = w.output
theorem Wr.set (w : World) (b : Nat) (o : Obj) : Wr w { w with heap := w.heap.setIfInBounds b o } b :=
 ⟨by simp, fun k hk => by simp [Array.getElem?_setIfInBounds, Ne.symm hk], rfl, rfl, rfl⟩
theorem Wr.modify (w : World) (b : Nat) (f : Obj → Obj) : Wr w { w with heap := w.heap.modify b f } b :=
 ⟨by simp, fun k hk => by simp [Array.getElem?_modify, Ne.symm hk], rfl, rfl, rfl⟩
theorem Ext.write {w w' : World} {σ : Sig} {b : Nat} {x : Blk} (hw : Wr w w' b) (hx : ∃ y, σ b = some y ∧ ∀ cs s c, x = .row cs s c → ∃ cs', y = .row cs' s c) : Ext w σ w' (upd σ b x) := by
 obtain ⟨y, hy, hrow⟩ := hx
 refine ⟨Nat.le_of_eq hw.size.symm, fun k hk hs => ?_, fun k hk cs s c hh => ?_, hw.os, hw.tape, hw.output⟩
 ·have hne : k ≠ b := by intro e; subst e; rw [hy] at hs; cases hs
  exact ⟨hw.other k hne, by rw [upd_ne _ _ _ _ hne]; exact hs⟩
 ·by_cases hne : k = b
  ·subst hne
   rw [upd_same] at hh
   obtain ⟨cs', e⟩ := hrow cs s c (Option.some.inj hh)
   exact ⟨cs', by rw [hy, e]⟩
  ·rw [upd_ne _ _ _ _ hne] at hh
   exact ⟨cs, hh⟩
theorem Rel.write {Γ : Glob} {w w' : World} {σ : Sig} (r : Rel Γ w σ) {b : Nat} {x : Blk} (hw : Wr w w' b)
  (hx : ∃ y, σ b = some y ∧ ∀ cs s c, x = .row cs s c → ∃ cs', y = .row cs' s c) (hb : BlkRep w' (upd σ b x) b x) : Rel Γ w' (upd σ b x) := by
 have e := Ext.write hw hx
 obtain ⟨y, hy, _⟩ := hx
 refine ⟨fun k z hz => ?_, fun g cs hg => ?_⟩
 ·by_cases hk : k = b
  ·subst hk
   rw [upd_same] at hz
   obtain rfl := Option.some.inj hz
   exact ⟨Nat.lt_of_lt_of_le (r.blk _ _ hy).1 e.size, hb⟩
  ·rw [upd_ne _ _ _ _ hk] at hz
   obtain ⟨h1, h2⟩ := r.blk k z hz
   exact ⟨Nat.lt_of_lt_of_le h1 e.size, h2.ext e (hw.other k hk)⟩
 ·obtain ⟨vs, h1, h2⟩ := r.glob g cs hg
  exact ⟨vs, h1.ext e, h2.ext e⟩
def Drop (σ σ' : Sig) : Prop := ∀ b, σ' b = none ∨ σ' b = σ b
theorem Drop.refl (σ : Sig) : Drop σ σ := fun _ => .inr rfl
theorem Drop.trans {σ σ1 σ2 : Sig} (h : Drop σ σ1) (k : Drop σ1 σ2) : Drop σ σ2 := fun b => by
 rcases k b with k | k
 ·exact .inl k
 ·rcases h b with h | h
  ·exact .inl (k.trans h)
  ·exact .inr (k.trans h)
theorem Drop.ext {σ σ' : Sig} (h : Drop σ σ') (w : World) : Ext w σ w σ' :=
 ⟨Nat.le_refl _, fun b _ hs => ⟨rfl, by rcases h b with h | h <;> simp [h, hs]⟩, fun b _ cs s c hh => ⟨cs, by rcases h b with h | h <;> simp_all⟩, rfl, rfl, rfl⟩
theorem Rel.drop {Γ : Glob} {w : World} {σ σ' : Sig} (r : Rel Γ w σ) (h : Drop σ σ') : Rel Γ w σ' := by
 have e := h.ext w
 refine ⟨fun b x hx => ?_, fun g cs hg => ?_⟩
 ·have hb : σ b = some x := by rcases h b with h | h <;> simp_all
  obtain ⟨h1, h2⟩ := r.blk b x hb
  exact ⟨h1, h2.ext e rfl⟩
 ·obtain ⟨vs, h1, h2⟩ := r.glob g cs hg
  exact ⟨vs, h1.ext e, h2.ext e⟩
mutual
inductive Fz (σ σ' : Sig) : AV → AV → Prop
 | refl (a : AV) : Fz σ σ' a a
 | nil : Fz σ σ' (.v (.slice none 0 0)) (.sl [] 0)
 | e0 : Fz σ σ' .e0 (.sl [] 0)
 | own {b off n : Nat} {cs cs' : List AV} {s c : Nat} (h : σ b = some (.row cs s c)) (h' : σ' b = none) (hk : FzL σ σ' ((cs.drop (off * s)).take (n * s)) cs') : Fz σ σ' (.own b s off n) (.sl cs' n)
 | ptr {b off : Nat} {cs cs' : List AV} {s c : Nat} (h : σ b = some (.row cs s c)) (h' : σ' b = none) (hk : FzL σ σ' cs cs') : Fz σ σ' (.v (.pointer (some ⟨b, off, none⟩))) (.pp cs' off)
 | agg {cs cs' : List AV} (h : FzL σ σ' cs cs') : Fz σ σ' (.agg cs) (.agg cs')
 | sl {n : Nat} {cs cs' : List AV} (h : FzL σ σ' cs cs') : Fz σ σ' (.sl cs n) (.sl cs' n)
 | pp {n : Nat} {cs cs' : List AV} (h : FzL σ σ' cs cs') : Fz σ σ' (.pp cs n) (.pp cs' n)
 | tup {cs cs' : List AV} (h : FzL σ σ' cs cs') : Fz σ σ' (.tup cs) (.tup cs')
 | fn {f : Fn} {as as' cs cs' : List AV} (h : FzL σ σ' as as') (h' : FzL σ σ' cs cs') : Fz σ σ' (.fn f as cs) (.fn f as' cs')
 | any (a : AV) : Fz σ σ' a .any
inductive FzL (σ σ' : Sig) : List AV → List AV → Prop
 | nil : FzL σ σ' [] []
 | cons {c c' : AV} {cs cs' : List AV} (h : Fz σ σ' c c') (h' : FzL σ σ' cs cs') : FzL σ σ' (c :: cs) (c' :: cs')
end
theorem FzL.refl {σ σ' : Sig} : ∀ (cs : List AV), FzL σ σ' cs cs
 | [] => .nil
 | c :: cs => .cons (.refl c) (.refl cs)
theorem plain_add (b off n : Nat) : (⟨b, off, none⟩ : Addr).add n = ⟨b, off + n, none⟩ := by unfold Addr.add; split <;> simp_all
theorem cell?_row {w : World} {b : Nat} {l : List Value} {el : TypeId} {fz : Nat × Nat} (h : w.heap[b]? = some (.cells l.toArray el fz)) (i : Nat) : w.cell? ⟨b, i, none⟩ = l[i]? := by
 simp [World.cell?, h]
mutual
theorem Fz.rep {Γ : Glob} {w : World} {σ σ' : Sig} (r : Rel Γ w σ) (hd : Drop σ σ') : ∀ {a a' : AV} {v : Value}, Fz σ σ' a a' → Rep w σ a v → Rep w σ' a' v
 | _, _, _, .refl _, h => h.ext (hd.ext w)
 | _, _, _, .any _, h => .any _
 | _, _, _, .nil, .v _ => .slnil
 | _, _, _, .e0, .e0 none => .slnil
 | _, _, _, .e0, .e0 (some a) => .sl .nil (fun h => absurd rfl h) (Nat.le_refl _)
 | _, _, _, .own (b := b) (off := off) (n := n) (cs := cs) (cs' := cs') (s := s) (c := c) h h' hk, .own (a := a) (cap := cap) hb hn h2 hc => by
  obtain ⟨h0, h1⟩ := hc cs s c h
  obtain ⟨vs, rest, el, h3, h4, h5⟩ := (r.blk b _ h).2
  refine .sl (FzL.rep r hd hk ((h4.drop (off * s)).take (n * s))) (fun hne => ?_) hn
  have hcap : cap ≠ 0 := by
   intro e
   subst e
   have : n = 0 := by omega
   subst this
   simp at hne
  obtain rfl := h2 hcap
  refine ⟨hb, h', fun i v hi => ?_⟩
  rw [plain_add, cell?_row h3]
  rw [List.getElem?_take] at hi
  split at hi
  ·rw [List.getElem?_drop] at hi
   have hlt : off * s + i < vs.length := by
    rcases Nat.lt_or_ge (off * s + i) vs.length with h | h
    ·exact h
    ·simp [List.getElem?_eq_none h] at hi
   rw [List.getElem?_append_left hlt]
   exact hi
  ·cases hi
 | _, _, _, .ptr (b := b) (off := off) (cs := cs) h h' hk, .v _ => by
  obtain ⟨hb, vs, rest, el, h3, h4, h5⟩ := r.blk b _ h
  have hrun : RunAt w σ' ⟨b, 0, none⟩ vs := fun hne => ⟨hb, h', fun i v hi => by
   rw [plain_add, cell?_row h3, Nat.zero_add]
   have hlt : i < vs.length := by
    rcases Nat.lt_or_ge i vs.length with h | h
    ·exact h
    ·simp [List.getElem?_eq_none h] at hi
   rw [List.getElem?_append_left hlt]
   exact hi⟩
  have := Rep.pp (off := off) (FzL.rep r hd hk h4) hrun
  rwa [plain_add, Nat.zero_add] at this
 | _, _, _, .agg h, .agg h' => .agg (FzL.rep r hd h h')
 | _, _, _, .sl .nil, .slnil => .slnil
 | _, _, _, .sl h, .sl h' hr hn => .sl (FzL.rep r hd h h') (hr.ext (hd.ext w)) hn
 | _, _, _, .pp h, .pp h' hr => .pp (FzL.rep r hd h h') (hr.ext (hd.ext w))
 | _, _, _, .tup h, .tup h' => .tup (FzL.rep r hd h h')
 | _, _, _, .fn h h', .fn k k' => .fn (FzL.rep r hd h k) (FzL.rep r hd h' k')
theorem FzL.rep {Γ : Glob} {w : World} {σ σ' : Sig} (r : Rel Γ w σ) (hd : Drop σ σ') : ∀ {cs cs' : List AV} {vs : List Value}, FzL σ σ' cs cs' → Reps w σ cs vs → Reps w σ' cs' vs
 | _, _, _, .nil, .nil => .nil
 | _, _, _, .cons h h', .cons k k' => .cons (Fz.rep r hd h k) (FzL.rep r hd h' k')
end
end Go.AL
