import Derived.Test.YtjimmpldofoimaaGreatDoorAlTy
import Derived.Test.YtjimmpldofoimaaGreatDoorWb
import Derived.Deep.Slices
import Derived.OpenShut
import Derived.ProofKit
import Derived.Test.YtjimmpldofoimaaGreatDoorRows
import Derived.LaidMore
import Derived.LaidHandle
import Derived.Lib.LaidU8
import Derived.Stop.Joined
set_option linter.unusedVariables false
set_option linter.unusedSimpArgs false
namespace Go.AL
open Go.Proofs Go.Deep Go.ChangeShapes Go.WideShapes
theorem Addr.add_add (a : Addr) (m n : Nat) : (a.add m).add n = a.add (m + n) := by
 unfold Addr.add
 by_cases hm : m = 0
 ·subst hm; simp
 ·by_cases hn : n = 0
  ·subst hn; simp
  ·rw [if_neg hm, if_neg hn, if_neg (by omega)]
   simp only [Nat.add_assoc]
section
variable {H : Type} {enc : TypeId × Value → H} {P : Program} {w : World} {base : Nat} {spare : Nat → Bool} {held : Bool}
def Opn (enc : TypeId × Value → H) (P : Program) (w : World) (base : Nat) (spare : Nat → Bool) (held : Bool) {α : Type} (e : TypeId) (f : α → List AV) (Good : α → Prop) : Prop :=
 ∀ (fuel : Nat) (cs : List Value) (x : DataW H × List MemPlace), DataW.trod enc P w base spare held fuel e cs = some x → ∃ y : α, Good y ∧ Reps w noB (f y) cs
theorem lt_of_cell {a : Addr} {v : Value} (h : w.cell? a = some v) : a.block < w.heap.size := by
 unfold World.cell? at h
 rcases Nat.lt_or_ge a.block w.heap.size with hl | hl
 ·exact hl
 ·rw [Array.getElem?_eq_none hl] at h
  cases h
theorem opn_slice {α : Type} {t e : TypeId} {f : α → List AV} {Good : α → Prop} {s : Nat} (ht : P.underlying t = some (.slice e)) (hc : P.cellsOf e = s) (hf : ∀ y, (f y).length = s) (he : Opn enc P w base spare held e f Good) :
  Opn enc P w base spare held t (fun l : List α => [AV.sl (l.flatMap f) l.length]) (fun l => l.length ≤ maxLen ∧ ∀ y ∈ l, Good y) := by
 intro fuel cs x h
 rcases open_slice ht h with ⟨rfl, rfl⟩ | ⟨a, len, cap, m, n, D, Pl, rfl, hb, hl, hm, hmm, rfl, hx⟩
 ·exact ⟨[], ⟨Nat.zero_le _, by simp⟩, .cons .slnil .nil⟩
 ·have hlm : len ≤ m := by rw [hmm]; split <;> omega
  have key : ∀ k, k ≤ len → ∃ (l : List α) (vs : List Value), l.length = k ∧ (∀ y ∈ l, Good y) ∧ Reps w noB (l.flatMap f) vs ∧ vs.length = k * s ∧ ∀ (i : Nat) v, vs[i]? = some v → w.cell? (a.add i) = some v := by
   intro k
   induction k with
   | zero => exact fun _ => ⟨[], [], rfl, by simp, .nil, by simp, by simp⟩
   | succ k ih =>
    intro hk
    obtain ⟨l, vs, h1, h2, h3, h4, h5⟩ := ih (by omega)
    obtain ⟨cs', g1, g2⟩ := hx k (by omega)
    obtain ⟨y, hy, hrep⟩ := he _ _ _ g2
    obtain ⟨_, q1, q2⟩ := World.cells?_some g1
    rw [hc] at q1
    refine ⟨l ++ [y], vs ++ cs', by simp [h1], fun z hz => ?_, ?_, ?_, fun i v hi => ?_⟩
    ·rcases List.mem_append.1 hz with h | h
     ·exact h2 z h
     ·rw [List.mem_singleton.1 h]; exact hy
    ·rw [List.flatMap_append]
     refine h3.append ?_
     simpa using hrep
    ·rw [List.length_append, h4, q1, Nat.succ_mul]
    ·rcases Nat.lt_or_ge i vs.length with hlt | hge
     ·rw [List.getElem?_append_left hlt] at hi
      exact h5 i v hi
     ·rw [List.getElem?_append_right hge] at hi
      have hj : i - vs.length < cs'.length := (List.getElem?_eq_some_iff.1 hi).1
      have := q2 (i - vs.length) (by rw [hc]; omega)
      rw [hc, Addr.add_add, hi] at this
      rw [← this]
      congr 2
      omega
  obtain ⟨l, vs, h1, h2, h3, h4, h5⟩ := key len (Nat.le_refl _)
  refine ⟨l, ⟨by omega, h2⟩, .cons ?_ .nil⟩
  rw [h1]
  refine .sl h3 (fun hne => ?_) hl
  obtain ⟨v, hv⟩ : ∃ v, vs[0]? = some v := by
   cases vs with
   | nil => exact absurd rfl hne
   | cons v vs => exact ⟨v, rfl⟩
  have := h5 0 v hv
  exact ⟨lt_of_cell this, rfl, h5⟩
theorem opn_int {t : TypeId} (ht : P.underlying t = some (.int .i64)) : Opn enc P w base spare held t (fun n : Int => [int n]) (fun n => (Lit.int .i64 n).wf = true) := by
 intro fuel cs x h
 obtain ⟨n, rfl, rfl, hw⟩ := DataW.trod_int ht h
 exact ⟨n, hw, .cons (.v _) .nil⟩
theorem opn_bool {t : TypeId} (ht : P.underlying t = some .bool) : Opn enc P w base spare held t (fun b : Bool => [AV.v (.bool b)]) (fun _ => True) := by
 intro fuel cs x h
 obtain ⟨n, rfl, rfl⟩ := DataW.trod_bool ht h
 exact ⟨n, trivial, .cons (.v _) .nil⟩
end
theorem ints_flat (l : List Int) : l.flatMap (fun n => [int n]) = ints l := by
 induction l with
 | nil => rfl
 | cons x l ih => rw [List.flatMap_cons, ih]; rfl
section
variable {H : Type} {enc : TypeId × Value → H} {w : World} {base : Nat} {spare : Nat → Bool} {held : Bool}
theorem opn46 : Opn enc Tryz.prog w base spare held 46 (fun l : List Int => [slI l]) (fun l => l.length ≤ maxLen) := by
 intro fuel cs x h
 obtain ⟨l, ⟨h1, _⟩, h2⟩ := opn_slice us46 (s := 1) (by kernel_rfl) (fun _ => rfl) (opn_int us3) fuel cs x h
 refine ⟨l, h1, ?_⟩
 simp only [ints_flat] at h2
 exact h2
set_option maxRecDepth 20000 in
theorem opn88 : Opn enc Tryz.prog w base spare held 88 tmC (fun t => t.coeffs.length ≤ maxLen) := by
 intro fuel cs x h
 obtain ⟨xs, n, rfl, rfl, hl, hxl, hf⟩ := DataW.trod_struct (fieldsOf_some fs88) h
 have hl2 : cs.length = 2 := hl.trans (by kernel_rfl)
 match cs, hl2 with
 | [c0, c1], _ =>
  have f0 := hf 0 _ rfl
  have f1 := hf 1 _ rfl
  have e0 : Tryz.prog.cellsOf 46 = 1 := by kernel_rfl
  have e1 : Tryz.prog.cellsOf 3 = 1 := by kernel_rfl
  simp only [List.size_toArray, List.length_cons, List.length_nil] at hxl
  match xs, hxl with
  | [x0, x1], _ =>
   simp only [e0, e1, List.drop_zero, List.drop_succ_cons, List.take_succ_cons, List.take_zero, List.getElem?_cons_zero, List.getElem?_cons_succ] at f0 f1
   obtain ⟨l, h1, h2⟩ := opn46 _ _ _ f0
   obtain ⟨k, _, h3⟩ := opn_int us3 _ _ _ f1
   exact ⟨⟨l, k⟩, h1, h2.append h3⟩
set_option maxRecDepth 20000 in
theorem opn174 : Opn enc Tryz.prog w base spare held 174 (fun x : Int × Int => [int x.1, int x.2]) (fun _ => True) := by
 intro fuel cs x h
 obtain ⟨xs, n, rfl, rfl, hl, hxl, hf⟩ := DataW.trod_array (n := 2) (e := 3) (by kernel_rfl) h
 have hl2 : cs.length = 2 := hl.trans (by kernel_rfl)
 match cs, hl2 with
 | [c0, c1], _ =>
  have e1 : Tryz.prog.cellsOf 3 = 1 := by kernel_rfl
  have f0 := hf 0 (by decide)
  have f1 := hf 1 (by decide)
  match xs, hxl with
  | [x0, x1], _ =>
   simp only [e1, Nat.zero_mul, Nat.one_mul, List.drop_zero, List.drop_succ_cons, List.take_succ_cons, List.take_zero, List.getElem?_cons_zero, List.getElem?_cons_succ] at f0 f1
   obtain ⟨a, _, h1⟩ := opn_int us3 _ _ _ f0
   obtain ⟨b, _, h2⟩ := opn_int us3 _ _ _ f1
   exact ⟨(a, b), trivial, h1.append h2⟩
set_option maxRecDepth 20000 in
theorem opn176 : Opn enc Tryz.prog w base spare held 176 stC (fun s => s.factors.length ≤ maxLen) := by
 intro fuel cs x h
 obtain ⟨xs, n, rfl, rfl, hl, hxl, hf⟩ := DataW.trod_struct (fieldsOf_some fs176) h
 have hl2 : cs.length = 6 := hl.trans (by kernel_rfl)
 match cs, hl2 with
 | [c0, c1, c2, c3, c4, c5], _ =>
  have f0 := hf 0 _ rfl
  have f1 := hf 1 _ rfl
  have f2 := hf 2 _ rfl
  have f3 := hf 3 _ rfl
  have f4 := hf 4 _ rfl
  have e4 : Tryz.prog.cellsOf 4 = 1 := by kernel_rfl
  have e46 : Tryz.prog.cellsOf 46 = 1 := by kernel_rfl
  have e3 : Tryz.prog.cellsOf 3 = 1 := by kernel_rfl
  have e174 : Tryz.prog.cellsOf 174 = 2 := by kernel_rfl
  simp only [List.size_toArray, List.length_cons, List.length_nil] at hxl
  match xs, hxl with
  | [x0, x1, x2, x3, x4], _ =>
   simp only [e4, e46, e3, e174, List.drop_zero, List.drop_succ_cons, List.take_succ_cons, List.take_zero, List.getElem?_cons_zero, List.getElem?_cons_succ] at f0 f1 f2 f3 f4
   obtain ⟨b, _, g0⟩ := opn_bool us4 _ _ _ f0
   obtain ⟨l, h1, g1⟩ := opn46 _ _ _ f1
   obtain ⟨v, _, g2⟩ := opn_int us3 _ _ _ f2
   obtain ⟨bd, _, g3⟩ := opn_int us3 _ _ _ f3
   obtain ⟨k, _, g4⟩ := opn174 _ _ _ f4
   exact ⟨⟨b, l, v, bd, k.1, k.2⟩, h1, g0.append (g1.append (g2.append (g3.append g4)))⟩
theorem opn23 : Opn enc Tryz.prog w base spare held 23 (fun l : List St => [slS l]) (fun l => l.length ≤ maxLen ∧ ∀ s ∈ l, s.factors.length ≤ maxLen) :=
 opn_slice us23 (s := 6) (by kernel_rfl) stC_len opn176
set_option maxRecDepth 20000 in
theorem opn25 : Opn enc Tryz.prog w base spare held 25 (fun l : List St => [slS l]) (fun l => l.length ≤ maxLen ∧ ∀ s ∈ l, s.factors.length ≤ maxLen) := by
 intro fuel cs x h
 obtain ⟨xs, n, rfl, rfl, hl, hxl, hf⟩ := DataW.trod_struct (fieldsOf_some fs25) h
 have hl2 : cs.length = 1 := hl.trans (by kernel_rfl)
 match cs, hl2 with
 | [c0], _ =>
  have f0 := hf 0 _ rfl
  have e23 : Tryz.prog.cellsOf 23 = 1 := by kernel_rfl
  simp only [List.size_toArray, List.length_cons, List.length_nil] at hxl
  match xs, hxl with
  | [x0], _ =>
   simp only [e23, List.drop_zero, List.take_succ_cons, List.take_zero, List.getElem?_cons_zero] at f0
   exact opn23 _ _ _ f0
variable {v : Value} {d : DataW H} {q : List MemPlace} {r : Reach} {b0 : Nat}
set_option maxRecDepth 20000 in
theorem arg25 (hval : Value.okWide Tryz.prog w r b0 25 v) (h : DataW.Trod enc Tryz.prog w base spare held 25 v d q) : ∃ l : List St, (l.length ≤ maxLen ∧ ∀ s ∈ l, s.factors.length ≤ maxLen) ∧ Rep w noB (prA l) v := by
 obtain ⟨cs, rfl, _⟩ := okWide_struct (fieldsOf_some fs25) hval
 obtain ⟨fuel, hf⟩ := h
 obtain ⟨l, h1, h2⟩ := opn25 _ _ _ hf
 have := Rep.agg h2
 simp only [Value.cells, Array.toArray_toList] at this
 exact ⟨l, h1, this⟩
end
end Go.AL

namespace Go.AL
open Go.Proofs Go.Proofs.YtjimmpldofoimaaGreatDoor Go.ChangeShapes Go.WideShapes
theorem laidH_reads {P : Program} {w : World} {l : List (String × DataW Unit)} (h : laidMetH P l w) {n : String} {d : DataW Unit} (hm : (n, d) ∈ l) (hd : d.handleName?.isNone = true) : Go.Lib.VarReads P w n d := by
 unfold laidMetH at h
 split at h
 ·exact Go.Lib.laidMet.reads h hm
 ·exact Go.Lib.laidMet.reads h.1 (List.mem_filter.2 ⟨hm, hd⟩)
theorem globAt_var {P : Program} {w : World} {n : String} {g : Nat} {cs : Array Value} (hg : P.globalNamed n = some g) (h : w.var? P n = some cs) : GlobAt w noB g cs.toList := by
 simp only [World.var?, hg, Option.bind_some] at h
 split at h
 ·rename_i cs' el fz hh
  cases h
  refine ⟨?_, rfl, el, fz, by simpa using hh⟩
  rcases Nat.lt_or_ge g w.heap.size with h | h
  ·exact h
  ·rw [Array.getElem?_eq_none h] at hh; cases hh
 ·cases h
theorem str_of_list {s : ByteArray} {l : List UInt8} (h : s.data.toList = l) : s = ⟨l.toArray⟩ := by
 subst h
 simp
theorem c9 : Tryz.prog.cellsOf 9 = 1 := by kernel_rfl
theorem c3 : Tryz.prog.cellsOf 3 = 1 := by kernel_rfl
end Go.AL

namespace Go.Proofs.YtjimmpldofoimaaGreatDoor
open Go.AL Go.ChangeShapes Go.WideShapes Go.ChangeAt Go.WideMaps Go.WideElems Go.RowKit
theorem own : ownKnob Tryz.prog.godebug = none := by kernel_rfl
theorem laidOut : laidOutB Tryz.prog = true := by kernel_rfl
theorem below_of_ext {W W' : World} (h : Ext W noB W' noB) : Below W.heap.size W W' :=
 ⟨h.os, h.tape, h.output, h.size, fun k hk => (h.keep k hk rfl).1⟩
end Go.Proofs.YtjimmpldofoimaaGreatDoor
