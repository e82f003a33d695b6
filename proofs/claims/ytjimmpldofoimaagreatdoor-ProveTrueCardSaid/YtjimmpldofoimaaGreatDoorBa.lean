/- The arguments of a law, as data, opened for the walks. -/
import Derived.Test.YtjimmpldofoimaaGreatDoorAlTy
import Derived.Test.YtjimmpldofoimaaGreatDoorWb
import Derived.Test.YtjimmpldofoimaaGreatDoorWg
import Derived.Test.YtjimmpldofoimaaGreatDoorWh
import Derived.Deep.Slices
import Derived.OpenShut
import Derived.ProofKit
import Derived.Test.YtjimmpldofoimaaGreatDoorRows
import Derived.LaidMore
import Derived.LaidHandle
import Derived.Lib.LaidU8
import Derived.Stop.Joined
set_option linter.unusedVariables false
set_option linter.unusedSimpArgs false
namespace Go.AL
open Go.Proofs Go.Deep Go.ChangeShapes Go.WideShapes
theorem Addr.add_add (a : Addr) (m n : Nat) : (a.add m).add n = a.add (m + n) := by
  unfold Addr.add
  by_cases hm : m = 0
  · subst hm; simp
  · by_cases hn : n = 0
    · subst hn; simp
    · rw [if_neg hm, if_neg hn, if_neg (by omega)]
      simp only [Nat.add_assoc]
section
variable {H : Type} {enc : TypeId × Value → H} {P : Program} {w : World} {base : Nat} {spare : Nat → Bool} {held : Bool}
/-- What cells of a type hold: f of some y. -/
def Opn (enc : TypeId × Value → H) (P : Program) (w : World) (base : Nat) (spare : Nat → Bool) (held : Bool) {α : Type} (e : TypeId) (f : α → List AV) (Good : α → Prop) : Prop :=
  ∀ (fuel : Nat) (cs : List Value) (x : DataW H × List MemPlace), DataW.trod enc P w base spare held fuel e cs = some x → ∃ y : α, Good y ∧ Reps w noB (f y) cs
theorem lt_of_cell {a : Addr} {v : Value} (h : w.cell? a = some v) : a.block < w.heap.size := by
  unfold World.cell? at h
  rcases Nat.lt_or_ge a.block w.heap.size with hl | hl
  · exact hl
  · rw [Array.getElem?_eq_none hl] at h
    cases h
theorem opn_slice {α : Type} {t e : TypeId} {f : α → List AV} {Good : α → Prop} {s : Nat} (ht : P.underlying t = some (.slice e)) (hc : P.cellsOf e = s) (hf : ∀ y, (f y).length = s) (he : Opn enc P w base spare held e f Good) :
    Opn enc P w base spare held t (fun l : List α => [AV.sl (l.flatMap f) l.length]) (fun l => l.length ≤ maxLen ∧ ∀ y ∈ l, Good y) := by
  intro fuel cs x h
  rcases open_slice ht h with ⟨rfl, rfl⟩ | ⟨a, len, cap, m, n, D, Pl, rfl, hb, hl, hm, hmm, rfl, hx⟩
  · exact ⟨[], ⟨Nat.zero_le _, by simp⟩, .cons .slnil .nil⟩
  · have hlm : len ≤ m := by rw [hmm]; split <;> omega
    have key : ∀ k, k ≤ len → ∃ (l : List α) (vs : List Value), l.length = k ∧ (∀ y ∈ l, Good y) ∧ Reps w noB (l.flatMap f) vs ∧ vs.length = k * s ∧ ∀ (i : Nat) v, vs[i]? = some v → w.cell? (a.add i) = some v := by
      intro k
      induction k with
      | zero => exact fun _ => ⟨[], [], rfl, by simp, .nil, by simp, by simp⟩
      | succ k ih =>
        intro hk
        obtain ⟨l, vs, h1, h2, h3, h4, h5⟩ := ih (by omega)
        obtain ⟨cs', g1, g2⟩ := hx k (by omega)
        obtain ⟨y, hy, hrep⟩ := he _ _ _ g2
        obtain ⟨_, q1, q2⟩ := World.cells?_some g1
        rw [hc] at q1
        refine ⟨l ++ [y], vs ++ cs', by simp [h1], fun z hz => ?_, ?_, ?_, fun i v hi => ?_⟩
        · rcases List.mem_append.1 hz with h | h
          · exact h2 z h
          · rw [List.mem_singleton.1 h]; exact hy
        · rw [List.flatMap_append]
          refine h3.append ?_
          simpa using hrep
        · rw [List.length_append, h4, q1, Nat.succ_mul]
        · rcases Nat.lt_or_ge i vs.length with hlt | hge
          · rw [List.getElem?_append_left hlt] at hi
            exact h5 i v hi
          · rw [List.getElem?_append_right hge] at hi
            have hj : i - vs.length < cs'.length := (List.getElem?_eq_some_iff.1 hi).1
            have := q2 (i - vs.length) (by rw [hc]; omega)
            rw [hc, Addr.add_add, hi] at this
            rw [← this]
            congr 2
            omega
    obtain ⟨l, vs, h1, h2, h3, h4, h5⟩ := key len (Nat.le_refl _)
    refine ⟨l, ⟨by omega, h2⟩, .cons ?_ .nil⟩
    rw [h1]
    refine .sl h3 (fun hne => ?_) hl
    obtain ⟨v, hv⟩ : ∃ v, vs[0]? = some v := by
      cases vs with
      | nil => exact absurd rfl hne
      | cons v vs => exact ⟨v, rfl⟩
    have := h5 0 v hv
    exact ⟨lt_of_cell this, rfl, h5⟩
theorem opn_int {t : TypeId} (ht : P.underlying t = some (.int .i64)) : Opn enc P w base spare held t (fun n : Int => [int n]) (fun n => (Lit.int .i64 n).wf = true) := by
  intro fuel cs x h
  obtain ⟨n, rfl, rfl, hw⟩ := DataW.trod_int ht h
  exact ⟨n, hw, .cons (.v _) .nil⟩
theorem opn_bool {t : TypeId} (ht : P.underlying t = some .bool) : Opn enc P w base spare held t (fun b : Bool => [AV.v (.bool b)]) (fun _ => True) := by
  intro fuel cs x h
  obtain ⟨n, rfl, rfl⟩ := DataW.trod_bool ht h
  exact ⟨n, trivial, .cons (.v _) .nil⟩
end
theorem ints_flat (l : List Int) : l.flatMap (fun n => [int n]) = ints l := by
  induction l with
  | nil => rfl
  | cons x l ih => rw [List.flatMap_cons, ih]; rfl
section
variable {H : Type} {enc : TypeId × Value → H} {w : World} {base : Nat} {spare : Nat → Bool} {held : Bool}
theorem opn46 : Opn enc Tryz.prog w base spare held 46 (fun l : List Int => [slI l]) (fun l => l.length ≤ maxLen) := by
  intro fuel cs x h
  obtain ⟨l, ⟨h1, _⟩, h2⟩ := opn_slice us46 (s := 1) (by kernel_rfl) (fun _ => rfl) (opn_int us3) fuel cs x h
  refine ⟨l, h1, ?_⟩
  simp only [ints_flat] at h2
  exact h2
set_option maxRecDepth 20000 in
theorem opn88 : Opn enc Tryz.prog w base spare held 88 tmC (fun t => t.coeffs.length ≤ maxLen) := by
  intro fuel cs x h
  obtain ⟨xs, n, rfl, rfl, hl, hxl, hf⟩ := DataW.trod_struct (fieldsOf_some fs88) h
  have hl2 : cs.length = 2 := hl.trans (by kernel_rfl)
  match cs, hl2 with
  | [c0, c1], _ =>
    have f0 := hf 0 _ rfl
    have f1 := hf 1 _ rfl
    have e0 : Tryz.prog.cellsOf 46 = 1 := by kernel_rfl
    have e1 : Tryz.prog.cellsOf 3 = 1 := by kernel_rfl
    simp only [List.size_toArray, List.length_cons, List.length_nil] at hxl
    match xs, hxl with
    | [x0, x1], _ =>
      simp only [e0, e1, List.drop_zero, List.drop_succ_cons, List.take_succ_cons, List.take_zero, List.getElem?_cons_zero, List.getElem?_cons_succ] at f0 f1
      obtain ⟨l, h1, h2⟩ := opn46 _ _ _ f0
      obtain ⟨k, _, h3⟩ := opn_int us3 _ _ _ f1
      exact ⟨⟨l, k⟩, h1, h2.append h3⟩
theorem opn22 : Opn enc Tryz.prog w base spare held 22 (fun l : List Tm => [slT l]) (fun l => l.length ≤ maxLen ∧ ∀ t ∈ l, t.coeffs.length ≤ maxLen) :=
  opn_slice us22 (s := 2) (by kernel_rfl) tmC_len opn88
set_option maxRecDepth 20000 in
theorem opn174 : Opn enc Tryz.prog w base spare held 174 (fun x : Int × Int => [int x.1, int x.2]) (fun _ => True) := by
  intro fuel cs x h
  obtain ⟨xs, n, rfl, rfl, hl, hxl, hf⟩ := DataW.trod_array (n := 2) (e := 3) (by kernel_rfl) h
  have hl2 : cs.length = 2 := hl.trans (by kernel_rfl)
  match cs, hl2 with
  | [c0, c1], _ =>
    have e1 : Tryz.prog.cellsOf 3 = 1 := by kernel_rfl
    have f0 := hf 0 (by decide)
    have f1 := hf 1 (by decide)
    match xs, hxl with
    | [x0, x1], _ =>
      simp only [e1, Nat.zero_mul, Nat.one_mul, List.drop_zero, List.drop_succ_cons, List.take_succ_cons, List.take_zero, List.getElem?_cons_zero, List.getElem?_cons_succ] at f0 f1
      obtain ⟨a, _, h1⟩ := opn_int us3 _ _ _ f0
      obtain ⟨b, _, h2⟩ := opn_int us3 _ _ _ f1
      exact ⟨(a, b), trivial, h1.append h2⟩
set_option maxRecDepth 20000 in
theorem opn176 : Opn enc Tryz.prog w base spare held 176 stC (fun s => s.factors.length ≤ maxLen) := by
  intro fuel cs x h
  obtain ⟨xs, n, rfl, rfl, hl, hxl, hf⟩ := DataW.trod_struct (fieldsOf_some fs176) h
  have hl2 : cs.length = 6 := hl.trans (by kernel_rfl)
  match cs, hl2 with
  | [c0, c1, c2, c3, c4, c5], _ =>
    have f0 := hf 0 _ rfl
    have f1 := hf 1 _ rfl
    have f2 := hf 2 _ rfl
    have f3 := hf 3 _ rfl
    have f4 := hf 4 _ rfl
    have e4 : Tryz.prog.cellsOf 4 = 1 := by kernel_rfl
    have e46 : Tryz.prog.cellsOf 46 = 1 := by kernel_rfl
    have e3 : Tryz.prog.cellsOf 3 = 1 := by kernel_rfl
    have e174 : Tryz.prog.cellsOf 174 = 2 := by kernel_rfl
    simp only [List.size_toArray, List.length_cons, List.length_nil] at hxl
    match xs, hxl with
    | [x0, x1, x2, x3, x4], _ =>
      simp only [e4, e46, e3, e174, List.drop_zero, List.drop_succ_cons, List.take_succ_cons, List.take_zero, List.getElem?_cons_zero, List.getElem?_cons_succ] at f0 f1 f2 f3 f4
      obtain ⟨b, _, g0⟩ := opn_bool us4 _ _ _ f0
      obtain ⟨l, h1, g1⟩ := opn46 _ _ _ f1
      obtain ⟨v, _, g2⟩ := opn_int us3 _ _ _ f2
      obtain ⟨bd, _, g3⟩ := opn_int us3 _ _ _ f3
      obtain ⟨k, _, g4⟩ := opn174 _ _ _ f4
      exact ⟨⟨b, l, v, bd, k.1, k.2⟩, h1, g0.append (g1.append (g2.append (g3.append g4)))⟩
theorem opn23 : Opn enc Tryz.prog w base spare held 23 (fun l : List St => [slS l]) (fun l => l.length ≤ maxLen ∧ ∀ s ∈ l, s.factors.length ≤ maxLen) :=
  opn_slice us23 (s := 6) (by kernel_rfl) stC_len opn176
set_option maxRecDepth 20000 in
theorem opn25 : Opn enc Tryz.prog w base spare held 25 (fun l : List St => [slS l]) (fun l => l.length ≤ maxLen ∧ ∀ s ∈ l, s.factors.length ≤ maxLen) := by
  intro fuel cs x h
  obtain ⟨xs, n, rfl, rfl, hl, hxl, hf⟩ := DataW.trod_struct (fieldsOf_some fs25) h
  have hl2 : cs.length = 1 := hl.trans (by kernel_rfl)
  match cs, hl2 with
  | [c0], _ =>
    have f0 := hf 0 _ rfl
    have e23 : Tryz.prog.cellsOf 23 = 1 := by kernel_rfl
    simp only [List.size_toArray, List.length_cons, List.length_nil] at hxl
    match xs, hxl with
    | [x0], _ =>
      simp only [e23, List.drop_zero, List.take_succ_cons, List.take_zero, List.getElem?_cons_zero] at f0
      exact opn23 _ _ _ f0
variable {v : Value} {d : DataW H} {q : List MemPlace} {r : Reach} {b0 : Nat}
set_option maxRecDepth 20000 in
theorem arg22 (hval : Value.okWide Tryz.prog w r b0 22 v) (h : DataW.Trod enc Tryz.prog w base spare held 22 v d q) : ∃ l : List Tm, (l.length ≤ maxLen ∧ ∀ t ∈ l, t.coeffs.length ≤ maxLen) ∧ Rep w noB (slT l) v := by
  obtain ⟨a, n, c, rfl⟩ := okWide_slice us22 hval
  obtain ⟨fuel, hf⟩ := h
  obtain ⟨l, h1, h2⟩ := opn22 _ _ _ hf
  cases h2 with
  | cons h3 _ => exact ⟨l, h1, h3⟩
set_option maxRecDepth 20000 in
theorem arg25 (hval : Value.okWide Tryz.prog w r b0 25 v) (h : DataW.Trod enc Tryz.prog w base spare held 25 v d q) : ∃ l : List St, (l.length ≤ maxLen ∧ ∀ s ∈ l, s.factors.length ≤ maxLen) ∧ Rep w noB (prA l) v := by
  obtain ⟨cs, rfl, _⟩ := okWide_struct (fieldsOf_some fs25) hval
  obtain ⟨fuel, hf⟩ := h
  obtain ⟨l, h1, h2⟩ := opn25 _ _ _ hf
  have := Rep.agg h2
  simp only [Value.cells, Array.toArray_toList] at this
  exact ⟨l, h1, this⟩
set_option maxRecDepth 20000 in
theorem arg3 (hval : Value.okWide Tryz.prog w r b0 3 v) : ∃ n : Int, v = .int .i64 n := okWide_int us3 hval
end
end Go.AL

/- The listed variables, opened for the walks. -/
set_option linter.unusedVariables false
set_option linter.unusedSimpArgs false
namespace Go.AL
open Go.Proofs Go.Proofs.YtjimmpldofoimaaGreatDoor Go.ChangeShapes Go.WideShapes
theorem laidH_reads {P : Program} {w : World} {l : List (String × DataW Unit)} (h : laidMetH P l w) {n : String} {d : DataW Unit} (hm : (n, d) ∈ l) (hd : d.handleName?.isNone = true) : Go.Lib.VarReads P w n d := by
  unfold laidMetH at h
  split at h
  · exact Go.Lib.laidMet.reads h hm
  · exact Go.Lib.laidMet.reads h.1 (List.mem_filter.2 ⟨hm, hd⟩)
/-- A variable's cells, whoever may write them not the walk. -/
theorem runAt_var {P : Program} {w : World} {n : String} {g : Nat} {cs : Array Value} (hg : P.globalNamed n = some g) (h : w.var? P n = some cs) : RunAt w noB ⟨g, 0, none⟩ cs.toList := fun hne => by
  have hc := World.var?_cell hg h
  obtain ⟨v, hv⟩ : ∃ v, cs.toList[0]? = some v := by
    cases hl : cs.toList with
    | nil => exact absurd hl hne
    | cons v vs => exact ⟨v, rfl⟩
  have h0 := hc 0
  rw [← Array.getElem?_toList, hv] at h0
  exact ⟨lt_of_cell h0, rfl, fun i v hi => by rw [plain_add, Nat.zero_add, hc i, ← Array.getElem?_toList, hi]⟩
theorem gNone : Tryz.prog.globalNamed "bailment/prove.none" = some 1 := by kernel_rfl
theorem gKinds : Tryz.prog.globalNamed "bailment/prove.kinds" = some 3 := by kernel_rfl
theorem tNone : (Tryz.prog.globals[1]?).map (·.type) = some 307 := by kernel_rfl
theorem uNone : Tryz.prog.underlying 307 = some (.array 2 3) := by kernel_rfl
theorem cNone : Tryz.prog.cellsOf 307 = 2 := by kernel_rfl
theorem tKinds : (Tryz.prog.globals[3]?).map (·.type) = some 332 := by kernel_rfl
theorem uKinds : Tryz.prog.underlying 332 = some (.array 2 331) := by kernel_rfl
theorem cKinds : Tryz.prog.cellsOf 332 = 6 := by kernel_rfl
theorem c331 : Tryz.prog.cellsOf 331 = 3 := by kernel_rfl
theorem c9 : Tryz.prog.cellsOf 9 = 1 := by kernel_rfl
theorem c3 : Tryz.prog.cellsOf 3 = 1 := by kernel_rfl
set_option maxRecDepth 20000 in
theorem none_cells {W : World} (h : Go.Lib.VarReads Tryz.prog W "bailment/prove.none" Rows.laid_bailment_prove_none) : ∃ vs, Reps W noB [int 0, int 0] vs ∧ RunAt W noB ⟨1, 0, none⟩ vs := by
  obtain ⟨g, t, cs, fuel, q, h1, h2, h3, h4⟩ := h
  obtain rfl := Option.some.inj (gNone.symm.trans h1)
  obtain rfl := Option.some.inj (tNone.symm.trans h2)
  have hrun := runAt_var gNone h3
  obtain ⟨xs, m, rfl, hx1, hlen, hn2, hel⟩ := DataW.trod_array uNone h4
  have f0 := hel 0 (by decide)
  have f1 := hel 1 (by decide)
  simp only [Prod.mk.injEq] at hx1
  match xs, hn2, hx1, f0, f1 with
  | [x0, x1], _, hx1, f0, f1 =>
    have hd : Rows.laid_bailment_prove_none (H := Unit) = .agg [.lit (.int .i64 0), .lit (.int .i64 0)] := rfl
    rw [hd] at hx1
    simp only [List.map_cons, List.map_nil, DataW.agg.injEq, List.cons.injEq] at hx1
    obtain ⟨n0, e0, q0, _⟩ := DataW.trod_int us3 (show DataW.trod _ Tryz.prog W 0 _ false m 3 _ = some x0 from f0)
    obtain ⟨n1, e1, q1, _⟩ := DataW.trod_int us3 (show DataW.trod _ Tryz.prog W 0 _ false m 3 _ = some x1 from f1)
    have z0 : n0 = 0 := by rw [q0] at hx1; simpa using hx1.1.1.symm
    have z1 : n1 = 0 := by rw [q1] at hx1; simpa using hx1.1.2.1.symm
    subst z0; subst z1
    rw [cNone] at hlen
    refine ⟨cs.toList, ?_, hrun⟩
    match hcs : cs.toList, hlen with
    | [a, b], _ =>
      rw [hcs, c3] at e0 e1
      simp only [Nat.zero_mul, Nat.one_mul, List.drop_zero, List.drop_succ_cons, List.take_succ_cons, List.take_zero, List.cons.injEq, and_true] at e0 e1
      subst e0; subst e1
      exact .cons (.v _) (.cons (.v _) .nil)
set_option maxRecDepth 20000 in
/-- The kind of a step: its word is in the first cell. -/
theorem word331 {W : World} {m : Nat} {cs : List Value} {a b c : DataW (List UInt8)} {q : List MemPlace} (h : DataW.trod (funcToken Tryz.prog) Tryz.prog W 0 (fun _ => true) true m 331 cs = some (.agg [a, b, c], q)) : ∃ s u v, cs = [.string s, u, v] ∧ a = .lit (.string s.data.toList) := by
  obtain ⟨xs, n, rfl, hx, hl, hxl, hf⟩ := DataW.trod_struct (fieldsOf_some fs331) h
  have hl3 : cs.length = 3 := hl.trans c331
  match cs, hl3 with
  | [c0, u, v], _ =>
    have f0 := hf 0 _ rfl
    simp only [List.size_toArray, List.length_cons, List.length_nil] at hxl
    match xs, hxl with
    | [x0, x1, x2], _ =>
      simp only [c9, List.drop_zero, List.take_succ_cons, List.take_zero, List.getElem?_cons_zero] at f0
      obtain ⟨y0, q0⟩ := x0
      have hx' : DataW.agg [a, b, c] = DataW.agg [y0, x1.1, x2.1] := congrArg Prod.fst hx
      have hx0 := (List.cons.inj (DataW.agg.inj hx')).1
      obtain ⟨s, h1, h2, _⟩ := DataW.trod_string us9 f0
      have h2' : y0 = .lit (.string s.data.toList) := congrArg Prod.fst h2
      obtain rfl : c0 = .string s := (List.cons.inj h1).1
      exact ⟨s, u, v, rfl, by rw [hx0, h2']⟩
theorem kinds_out : ∃ d : DataW Unit, Rows.laid_bailment_prove_kinds (H := Unit) = .iface "func table" d ∧ ∃ a b a' b', d.funcsOut = .agg [.agg [.lit (.string [108, 101, 97, 102]), a, b], .agg [.lit (.string [115, 112, 108, 105, 116]), a', b']] := by
  unfold Rows.laid_bailment_prove_kinds
  refine ⟨_, rfl, ?_⟩
  simp only [DataW.funcsOut, DataW.funcsOutAll]
  exact ⟨_, _, _, _, rfl⟩
theorem str_of_list {s : ByteArray} {l : List UInt8} (h : s.data.toList = l) : s = ⟨l.toArray⟩ := by
  subst h
  simp
set_option maxRecDepth 20000 in
theorem kinds_cells {W : World} {d : DataW Unit} (hd : Rows.laid_bailment_prove_kinds (H := Unit) = .iface "func table" d) (h : funcsAt Tryz.prog W "bailment/prove.kinds" d) : ∃ vs, Reps W noB kindsT vs ∧ RunAt W noB ⟨3, 0, none⟩ vs := by
  obtain ⟨d', hd', ka, kb, ka', kb', hdd⟩ := kinds_out
  rw [hd] at hd'
  simp only [DataW.iface.injEq, true_and] at hd'
  subst hd'
  obtain ⟨g, t, cs, fuel, q, h1, h2, h3, h4⟩ := h
  obtain rfl := Option.some.inj (gKinds.symm.trans h1)
  obtain rfl := Option.some.inj (tKinds.symm.trans h2)
  have hrun := runAt_var gKinds h3
  obtain ⟨xs, m, rfl, hx1, hlen, hn2, hel⟩ := DataW.trod_array uKinds h4
  have f0 := hel 0 (by decide)
  have f1 := hel 1 (by decide)
  simp only [Prod.mk.injEq] at hx1
  rw [hdd] at hx1
  match xs, hn2, hx1, f0, f1 with
  | [x0, x1], _, hx1, f0, f1 =>
    obtain ⟨x0, q0⟩ := x0
    obtain ⟨x1, q1⟩ := x1
    simp only [List.map_cons, List.map_nil, DataW.agg.injEq, List.cons.injEq, and_true] at hx1
    obtain ⟨⟨rfl, rfl⟩, _⟩ := hx1
    obtain ⟨s0, u0, v0, e0, d0⟩ := word331 f0
    obtain ⟨s1, u1, v1, e1, d1⟩ := word331 f1
    rw [cKinds] at hlen
    refine ⟨cs.toList, ?_, hrun⟩
    match hcs : cs.toList, hlen with
    | [a, b, c, a', b', c'], _ =>
      rw [hcs, c331] at e0 e1
      simp only [Nat.zero_mul, Nat.one_mul, List.drop_zero, List.drop_succ_cons, List.take_succ_cons, List.take_zero, List.cons.injEq, and_true] at e0 e1
      obtain ⟨rfl, rfl, rfl⟩ := e0
      obtain ⟨rfl, rfl, rfl⟩ := e1
      simp only [DataW.lit.injEq, Lit.string.injEq] at d0 d1
      rw [str_of_list d0.symm, str_of_list d1.symm]
      exact .cons (.v _) (.cons (.any _) (.cons (.any _) (.cons (.v _) (.cons (.any _) (.cons (.any _) .nil)))))
/-- The tables of chapter 29. -/
def Γ29 : Glob := fun g => if g = 1 then some [int 0, int 0] else if g = 3 then some kindsT else none
theorem rel29 {W : World} (h1 : ∃ vs, Reps W noB [int 0, int 0] vs ∧ RunAt W noB ⟨1, 0, none⟩ vs) (h3 : ∃ vs, Reps W noB kindsT vs ∧ RunAt W noB ⟨3, 0, none⟩ vs) : Rel Γ29 W noB := by
  refine ⟨fun b x h => (by cases h), fun g cs h => ?_⟩
  unfold Γ29 at h
  split at h
  · subst_vars; cases h; exact h1
  · split at h
    · subst_vars; cases h; exact h3
    · cases h
end Go.AL

/- ProveChecks: for every list of terms, every proof and every number the law returns true, and the arguments read as before. Conditions: none of its own. -/
set_option linter.unusedVariables false
set_option linter.unusedSimpArgs false
namespace Go.Proofs.YtjimmpldofoimaaGreatDoor
open Go.AL Go.ChangeShapes Go.WideShapes Go.ChangeAt Go.WideMaps Go.WideElems Go.RowKit
theorem own : ownKnob Tryz.prog.godebug = none := by kernel_rfl
theorem laidOut : laidOutB Tryz.prog = true := by kernel_rfl
/-- The variables that the rows of the chapter of proofs list. -/
def laidP : List (String × DataW Unit) := [("math/bits.deBruijn32tab", Rows.laid_math_bits_deBruijn32tab), ("math/bits.deBruijn64tab", Rows.laid_math_bits_deBruijn64tab), ("internal/strconv.uint64pow10", Rows.laid_internal_strconv_uint64pow10), ("bailment/prove.none", Rows.laid_bailment_prove_none), ("bailment/prove.kinds", Rows.laid_bailment_prove_kinds)]
set_option maxRecDepth 100000 in
theorem door_met (os : Os) (args : Array Value) : laidMetH Tryz.prog laidP ((World.doorLaid Tryz.prog 61 os).forCall (fun _ _ => 0) ⟨#[], args, []⟩).memory :=
  laidMetH_of_parts3 (fuel := 8) (laidMet_of_run' 8 (by kernel_rfl) (by kernel_rfl)) (by kernel_rfl) (by kernel_rfl)
theorem rel_of_laid {W : World} (h : laidMetH Tryz.prog laidP W) : Rel Γ29 W noB := by
  obtain ⟨d, hd, _⟩ := kinds_out
  refine rel29 (none_cells (laidH_reads h (by simp [laidP]) (by kernel_rfl))) (kinds_cells hd (h.funcs (n := "bailment/prove.kinds") ?_))
  rw [← hd]
  simp [laidP]
/-- A walk that leaves the caller's memory as it is. -/
theorem below_of_ext {W W' : World} (h : Ext W noB W' noB) : Below W.heap.size W W' :=
  ⟨h.os, h.tape, h.output, h.size, fun k hk => (h.keep k hk rfl).1⟩
end Go.Proofs.YtjimmpldofoimaaGreatDoor
