/- Further arguments of the laws, as data, opened for the walks. -/
import Derived.Test.YtjimmpldofoimaaGreatDoorBz
import Derived.Test.YtjimmpldofoimaaGreatDoorV1
import Derived.Test.YtjimmpldofoimaaGreatDoorWh
import Derived.Test.YtjimmpldofoimaaGreatDoorXc
import Derived.Test.YtjimmpldofoimaaGreatDoorRows
import Derived.LaidMore
import Derived.LaidHandle
import Derived.Lib.LaidU8
import Derived.Stop.Joined
import Derived.Lib.LaidTab
set_option linter.unusedVariables false
set_option linter.unusedSimpArgs false
namespace Go.AL
open Go.Proofs Go.Deep Go.ChangeShapes Go.WideShapes
section
variable {H : Type} {enc : TypeId × Value → H} {w : World} {base : Nat} {spare : Nat → Bool} {held : Bool}
variable {v : Value} {d : DataW H} {q : List MemPlace} {r : Reach} {b0 : Nat}
end
end Go.AL

/- A string, as an argument, opened for the walks. -/
set_option linter.unusedVariables false
namespace Go.AL
open Go.Proofs Go.Deep Go.ChangeShapes Go.WideShapes
set_option maxRecDepth 20000 in
theorem arg9 {w : World} {r : Reach} {b0 : Nat} {v : Value} (hval : Value.okWide Tryz.prog w r b0 9 v) : ∃ s : ByteArray, v = .string s := okWide_string us9 hval
end Go.AL

/- The listed variables, opened for the walks. -/
set_option linter.unusedVariables false
set_option linter.unusedSimpArgs false
namespace Go.AL
open Go.Proofs Go.Proofs.YtjimmpldofoimaaGreatDoor Go.ChangeShapes Go.WideShapes
theorem gNone : Tryz.prog.globalNamed "bailment/prove.none" = some 1 := by kernel_rfl
theorem gKinds : Tryz.prog.globalNamed "bailment/prove.kinds" = some 3 := by kernel_rfl
theorem tNone : (Tryz.prog.globals[1]?).map (·.type) = some 307 := by kernel_rfl
theorem uNone : Tryz.prog.underlying 307 = some (.array 2 3) := by kernel_rfl
theorem cNone : Tryz.prog.cellsOf 307 = 2 := by kernel_rfl
theorem tKinds : (Tryz.prog.globals[3]?).map (·.type) = some 332 := by kernel_rfl
theorem uKinds : Tryz.prog.underlying 332 = some (.array 2 331) := by kernel_rfl
theorem cKinds : Tryz.prog.cellsOf 332 = 6 := by kernel_rfl
theorem c331 : Tryz.prog.cellsOf 331 = 3 := by kernel_rfl
set_option maxRecDepth 20000 in
theorem none_cells {W : World} (h : Go.Lib.VarReads Tryz.prog W "bailment/prove.none" Rows.laid_bailment_prove_none) : ∃ vs, Reps W noB [int 0, int 0] vs ∧ GlobAt W noB 1 vs := by
  obtain ⟨g, t, cs, fuel, q, h1, h2, h3, h4⟩ := h
  obtain rfl := Option.some.inj (gNone.symm.trans h1)
  obtain rfl := Option.some.inj (tNone.symm.trans h2)
  have hrun := globAt_var gNone h3
  obtain ⟨xs, m, rfl, hx1, hlen, hn2, hel⟩ := DataW.trod_array uNone h4
  have f0 := hel 0 (by decide)
  have f1 := hel 1 (by decide)
  simp only [Prod.mk.injEq] at hx1
  match xs, hn2, hx1, f0, f1 with
  | [x0, x1], _, hx1, f0, f1 =>
    have hd : Rows.laid_bailment_prove_none (H := Unit) = .agg [.lit (.int .i64 0), .lit (.int .i64 0)] := rfl
    rw [hd] at hx1
    simp only [List.map_cons, List.map_nil, DataW.agg.injEq, List.cons.injEq] at hx1
    obtain ⟨n0, e0, q0, _⟩ := DataW.trod_int us3 (show DataW.trod _ Tryz.prog W 0 _ false m 3 _ = some x0 from f0)
    obtain ⟨n1, e1, q1, _⟩ := DataW.trod_int us3 (show DataW.trod _ Tryz.prog W 0 _ false m 3 _ = some x1 from f1)
    have z0 : n0 = 0 := by rw [q0] at hx1; simpa using hx1.1.1.symm
    have z1 : n1 = 0 := by rw [q1] at hx1; simpa using hx1.1.2.1.symm
    subst z0; subst z1
    rw [cNone] at hlen
    refine ⟨cs.toList, ?_, hrun⟩
    match hcs : cs.toList, hlen with
    | [a, b], _ =>
      rw [hcs, c3] at e0 e1
      simp only [Nat.zero_mul, Nat.one_mul, List.drop_zero, List.drop_succ_cons, List.take_succ_cons, List.take_zero, List.cons.injEq, and_true] at e0 e1
      subst e0; subst e1
      exact .cons (.v _) (.cons (.v _) .nil)
theorem c224 : Tryz.prog.cellsOf 224 = 1 := by kernel_rfl
theorem c329 : Tryz.prog.cellsOf 329 = 1 := by kernel_rfl
theorem u224 : Tryz.prog.underlying 224 = some (.func #[3] #[4] false) := by kernel_rfl
theorem u329 : Tryz.prog.underlying 329 = some (.func #[46] #[179] false) := by kernel_rfl
section
variable {H : Type} {enc : TypeId × Value → H} {P : Program} {w : World} {base : Nat} {spare : Nat → Bool}
theorem trod_fn {t : TypeId} {a b : Array TypeId} {c : Bool} {fuel : Nat} {cs : List Value} {x : DataW H × List MemPlace} (ht : P.underlying t = some (.func a b c)) (h : DataW.trod enc P w base spare true fuel t cs = some x) : (cs = [.nilFunc] ∧ x = (.nil, [])) ∨ ∃ fn f u, cs = [.func fn f u] ∧ x = (.held (enc (t, .func fn f u)), []) := by
  cases fuel with
  | zero => simp [DataW.trod] at h
  | succ n =>
    unfold DataW.trod at h
    rw [ht] at h
    split at h <;> first
      | (simp_all; done)
      | (simp_all; exact ⟨_, _, _, ⟨rfl, rfl, rfl⟩, h.symm⟩)
end
theorem fn_named {t : TypeId} {fn : Fn} {a b : Array Value} {name : String} {l : List UInt8} {N : Nat} (h : funcToken Tryz.prog (t, .func fn a b) = l) (hl : name.toUTF8.data.toList = l) (hne : l ≠ []) (hN : Tryz.prog.funcNamed name = some N) : Value.func fn a b = .func (.func N) #[] #[] := by
  subst hl
  cases fn with
  | func f =>
    simp only [funcToken] at h
    split at h
    · rename_i hab
      rw [Bool.and_eq_true] at hab
      have ha : a = #[] := by simpa using hab.1
      have hb : b = #[] := by simpa using hab.2
      split at h
      · rename_i fn' hf
        split at h
        · rename_i hnm
          have e1 : fn'.name.toUTF8 = name.toUTF8 := by
            have : fn'.name.toUTF8.data = name.toUTF8.data := Array.toList_inj.1 h
            exact ByteArray.ext this
          have e2 : fn'.name = name := by
            exact String.toByteArray_inj.1 e1
          rw [e2, hN] at hnm
          have : N = f := by simpa using hnm
          rw [this, ha, hb]
        · exact absurd h.symm hne
      · exact absurd h.symm hne
    · exact absurd h.symm hne
  | _ => exact absurd h.symm hne
set_option maxRecDepth 20000 in
/-- The kind of a step: its word, and its two functions. -/
theorem row331 {W : World} {m : Nat} {cs : List Value} {a b c : DataW (List UInt8)} {q : List MemPlace} (h : DataW.trod (funcToken Tryz.prog) Tryz.prog W 0 (fun _ => true) true m 331 cs = some (.agg [a, b, c], q)) : ∃ s u v, cs = [.string s, u, v] ∧ a = .lit (.string s.data.toList) ∧ ((u = .nilFunc ∧ b = .nil) ∨ ∃ fn f x, u = .func fn f x ∧ b = .held (funcToken Tryz.prog (224, .func fn f x))) ∧ ((v = .nilFunc ∧ c = .nil) ∨ ∃ fn f x, v = .func fn f x ∧ c = .held (funcToken Tryz.prog (329, .func fn f x))) := by
  obtain ⟨xs, n, rfl, hx, hl, hxl, hf⟩ := DataW.trod_struct (fieldsOf_some fs331) h
  have hl3 : cs.length = 3 := hl.trans c331
  match cs, hl3 with
  | [c0, c1, c2], _ =>
    have f0 := hf 0 _ rfl
    have f1 := hf 1 _ rfl
    have f2 := hf 2 _ rfl
    simp only [List.size_toArray, List.length_cons, List.length_nil] at hxl
    match xs, hxl with
    | [x0, x1, x2], _ =>
      simp only [c9, c224, c329, List.drop_zero, List.drop_succ_cons, List.take_succ_cons, List.take_zero, List.getElem?_cons_zero, List.getElem?_cons_succ] at f0 f1 f2
      obtain ⟨y0, q0⟩ := x0
      obtain ⟨y1, q1⟩ := x1
      obtain ⟨y2, q2⟩ := x2
      have hx' : DataW.agg [a, b, c] = DataW.agg [y0, y1, y2] := congrArg Prod.fst hx
      have hx0 := DataW.agg.inj hx'
      simp only [List.cons.injEq, and_true] at hx0
      obtain ⟨rfl, rfl, rfl⟩ := hx0
      obtain ⟨s, h1, h2, _⟩ := DataW.trod_string us9 f0
      obtain rfl : c0 = .string s := (List.cons.inj h1).1
      refine ⟨s, c1, c2, rfl, congrArg Prod.fst h2, ?_, ?_⟩
      · rcases trod_fn u224 f1 with ⟨h5, h6⟩ | ⟨fn, f, u, h5, h6⟩
        · exact .inl ⟨(List.cons.inj h5).1, congrArg Prod.fst h6⟩
        · exact .inr ⟨fn, f, u, (List.cons.inj h5).1, congrArg Prod.fst h6⟩
      · rcases trod_fn u329 f2 with ⟨h5, h6⟩ | ⟨fn, f, u, h5, h6⟩
        · exact .inl ⟨(List.cons.inj h5).1, congrArg Prod.fst h6⟩
        · exact .inr ⟨fn, f, u, (List.cons.inj h5).1, congrArg Prod.fst h6⟩
theorem kinds_out : ∃ d : DataW Unit, Rows.laid_bailment_prove_kinds (H := Unit) = .iface "func table" d ∧ d.funcsOut = .agg [.agg [.lit (.string [108, 101, 97, 102]), .held [98, 97, 105, 108, 109, 101, 110, 116, 47, 112, 114, 111, 118, 101, 46, 107, 105, 110, 100, 115, 36, 49], .held [98, 97, 105, 108, 109, 101, 110, 116, 47, 112, 114, 111, 118, 101, 46, 107, 105, 110, 100, 115, 36, 50]], .agg [.lit (.string [115, 112, 108, 105, 116]), .held [98, 97, 105, 108, 109, 101, 110, 116, 47, 112, 114, 111, 118, 101, 46, 107, 105, 110, 100, 115, 36, 51], .held [98, 97, 105, 108, 109, 101, 110, 116, 47, 112, 114, 111, 118, 101, 46, 107, 105, 110, 100, 115, 36, 52]]] := by
  unfold Rows.laid_bailment_prove_kinds
  refine ⟨_, rfl, ?_⟩
  simp only [DataW.funcsOut, DataW.funcsOutAll]
  rfl
theorem fn_held {t : TypeId} {v : Value} {name : String} {l : List UInt8} {N : Nat} (k : (v = .nilFunc ∧ DataW.held (H := List UInt8) l = .nil) ∨ ∃ fn f x, v = .func fn f x ∧ DataW.held (H := List UInt8) l = .held (funcToken Tryz.prog (t, .func fn f x))) (hl : name.toUTF8.data.toList = l) (hne : l ≠ []) (hN : Tryz.prog.funcNamed name = some N) : v = .func (.func N) #[] #[] := by
  rcases k with ⟨_, h⟩ | ⟨fn, f, u, rfl, h⟩
  · cases h
  · exact fn_named (DataW.held.inj h).symm hl hne hN
set_option maxRecDepth 20000 in
set_option maxHeartbeats 1000000 in
theorem kinds_cells {W : World} {d : DataW Unit} (hd : Rows.laid_bailment_prove_kinds (H := Unit) = .iface "func table" d) (h : funcsAt Tryz.prog W "bailment/prove.kinds" d) : ∃ vs, Reps W noB kindsT vs ∧ GlobAt W noB 3 vs := by
  obtain ⟨d', hd', hdd⟩ := kinds_out
  rw [hd] at hd'
  simp only [DataW.iface.injEq, true_and] at hd'
  subst hd'
  obtain ⟨g, t, cs, fuel, q, h1, h2, h3, h4⟩ := h
  obtain rfl := Option.some.inj (gKinds.symm.trans h1)
  obtain rfl := Option.some.inj (tKinds.symm.trans h2)
  have hrun := globAt_var gKinds h3
  obtain ⟨xs, m, rfl, hx1, hlen, hn2, hel⟩ := DataW.trod_array uKinds h4
  have f0 := hel 0 (by decide)
  have f1 := hel 1 (by decide)
  simp only [Prod.mk.injEq] at hx1
  rw [hdd] at hx1
  match xs, hn2, hx1, f0, f1 with
  | [⟨x0, q0⟩, ⟨x1, q1⟩], _, hx1, f0, f1 =>
    simp only [List.map_cons, List.map_nil, DataW.agg.injEq, List.cons.injEq, and_true] at hx1
    obtain ⟨⟨rfl, rfl⟩, _⟩ := hx1
    obtain ⟨s0, u0, v0, e0, d0, k0, l0⟩ := row331 f0
    obtain ⟨s1, u1, v1, e1, d1, k1, l1⟩ := row331 f1
    rw [cKinds] at hlen
    refine ⟨cs.toList, ?_, hrun⟩
    match hcs : cs.toList, hlen with
    | [z0, z1, z2, z3, z4, z5], _ =>
      rw [hcs, c331] at e0 e1
      simp only [Nat.zero_mul, Nat.one_mul, List.drop_zero, List.drop_succ_cons, List.take_succ_cons, List.take_zero, List.cons.injEq, and_true] at e0 e1
      obtain ⟨e00, e01, e02⟩ := e0
      obtain ⟨e10, e11, e12⟩ := e1
      subst e00 e01 e02 e10 e11 e12
      simp only [DataW.lit.injEq, Lit.string.injEq] at d0 d1
      rw [str_of_list d0.symm, str_of_list d1.symm]
      have w1 := fn_held k0 (name := "bailment/prove.kinds$1") (by kernel_rfl) (by simp) (N := 322) (by kernel_rfl)
      have w2 := fn_held l0 (name := "bailment/prove.kinds$2") (by kernel_rfl) (by simp) (N := 323) (by kernel_rfl)
      have w4 := fn_held k1 (name := "bailment/prove.kinds$3") (by kernel_rfl) (by simp) (N := 324) (by kernel_rfl)
      have w5 := fn_held l1 (name := "bailment/prove.kinds$4") (by kernel_rfl) (by simp) (N := 325) (by kernel_rfl)
      subst w1; subst w2; subst w4; subst w5
      exact .cons (.v _) (.cons (.fn .nil .nil) (.cons (.fn .nil .nil) (.cons (.v _) (.cons (.fn .nil .nil) (.cons (.fn .nil .nil) .nil)))))
end Go.AL

/- ProveChecks: for every list of terms, every proof and every number the law returns true, and the arguments read as before. Conditions: none of its own. -/
set_option linter.unusedVariables false
set_option linter.unusedSimpArgs false
namespace Go.Proofs.YtjimmpldofoimaaGreatDoor
open Go.AL Go.ChangeShapes Go.WideShapes Go.ChangeAt Go.WideMaps Go.WideElems Go.RowKit
end Go.Proofs.YtjimmpldofoimaaGreatDoor

/- The listed variables of chapter 10, opened for the walks; its arguments. -/
set_option linter.unusedVariables false
set_option linter.unusedSimpArgs false
namespace Go.AL
open Go.Proofs Go.Proofs.YtjimmpldofoimaaGreatDoor Go.ChangeShapes Go.WideShapes
theorem c4 : Tryz.prog.cellsOf 4 = 1 := by kernel_rfl
theorem tPow : (Tryz.prog.globals[5]?).map (·.type) = some 375 := by kernel_rfl
theorem uPow : Tryz.prog.underlying 375 = some (.array 20 368) := by kernel_rfl
theorem uPowE : Tryz.prog.underlying 368 = some (.int .u64) := by kernel_rfl
theorem cPowE : Tryz.prog.cellsOf 368 = 1 := by kernel_rfl
theorem cPow : Tryz.prog.cellsOf 375 = 20 := by kernel_rfl
theorem pow_cells {W : World} (h : Go.Lib.VarReads Tryz.prog W "internal/strconv.uint64pow10" Rows.laid_internal_strconv_uint64pow10) : ∃ vs, Reps W noB powT vs ∧ GlobAt W noB 5 vs := by
  obtain ⟨g, t, cs, fuel, q, h1, h2, h3, h4⟩ := h
  obtain rfl := Option.some.inj (gPow.symm.trans h1)
  obtain rfl := Option.some.inj (tPow.symm.trans h2)
  have hd : Rows.laid_internal_strconv_uint64pow10 (H := Unit) = Lib.tabData .u64 Lib.pow10Tab := by kernel_rfl
  rw [hd] at h4
  have := Lib.cells_of_tab uPow uPowE cPowE cPow h4
  refine ⟨cs.toList, ?_, globAt_var gPow h3⟩
  rw [this]
  have e : powT = (Lib.pow10Tab.map fun z => Value.int .u64 z).map .v := by rw [powT, List.map_map]; rfl
  rw [e]
  exact Reps.vs _
section
variable {H : Type} {enc : TypeId × Value → H} {P : Program} {w : World} {base : Nat} {spare : Nat → Bool}
end
end Go.AL

/- The listed variables of the rows of chapter 10: what they hold when the call begins. -/
set_option linter.unusedVariables false
set_option linter.unusedSimpArgs false
namespace Go.Proofs.YtjimmpldofoimaaGreatDoor
open Go.AL Go.ChangeShapes Go.WideShapes Go.ChangeAt Go.WideMaps Go.WideElems Go.RowKit
end Go.Proofs.YtjimmpldofoimaaGreatDoor

/- The listed variables of the rows that stand on both chapters: what they hold when the call begins. -/
set_option linter.unusedVariables false
set_option linter.unusedSimpArgs false
namespace Go.AL
open Go.Proofs
end Go.AL
namespace Go.Proofs.YtjimmpldofoimaaGreatDoor
open Go.AL Go.ChangeShapes Go.WideShapes Go.ChangeAt Go.WideMaps Go.WideElems Go.RowKit
end Go.Proofs.YtjimmpldofoimaaGreatDoor

/- The listed variables of the rows of chapter 10 that read strings: what they hold when the call begins. -/
set_option linter.unusedVariables false
set_option linter.unusedSimpArgs false
namespace Go.Proofs.YtjimmpldofoimaaGreatDoor
open Go.AL Go.ChangeShapes Go.WideShapes Go.ChangeAt Go.WideMaps Go.WideElems Go.RowKit
/-- The memory of the door's run, with the pinned table beside it. -/
noncomputable def worldS (os : Os) : World :=
  { World.doorLaid Tryz.prog 61 os with heap := (World.doorLaid Tryz.prog 61 os).heap.modify 6 fun o => match o with
    | .cells _ t fz => .cells (Go.Pinned.utf8FirstZ.map fun n : Nat => Value.int .u8 (n : Int)).toArray t fz
    | o => o }
end Go.Proofs.YtjimmpldofoimaaGreatDoor

/- The listed variables of the rows of chapter 29 that read strings: what they hold when the call begins. -/
set_option linter.unusedVariables false
set_option linter.unusedSimpArgs false
namespace Go.AL
open Go.Proofs
/-- The tables of chapter 29 with the powers of ten. -/
def Γ29S : Glob := fun g => if g = 1 then some [int 0, int 0] else if g = 3 then some kindsT else if g = 5 then some powT else none
theorem rel29S {W : World} (h1 : ∃ vs, Reps W noB [int 0, int 0] vs ∧ GlobAt W noB 1 vs) (h3 : ∃ vs, Reps W noB kindsT vs ∧ GlobAt W noB 3 vs) (h5 : ∃ vs, Reps W noB powT vs ∧ GlobAt W noB 5 vs) : Rel Γ29S W noB := by
  refine ⟨fun b x h => (by cases h), fun g cs h => ?_⟩
  unfold Γ29S at h
  split at h
  · subst_vars; cases h; exact h1
  · split at h
    · subst_vars; cases h; exact h3
    · split at h
      · subst_vars; cases h; exact h5
      · cases h
end Go.AL
namespace Go.Proofs.YtjimmpldofoimaaGreatDoor
open Go.AL Go.ChangeShapes Go.WideShapes Go.ChangeAt Go.WideMaps Go.WideElems Go.RowKit
/-- The variables that ProveStrings lists. -/
def laidT : List (String × DataW Unit) := [("math/bits.deBruijn32tab", Rows.laid_math_bits_deBruijn32tab), ("math/bits.deBruijn64tab", Rows.laid_math_bits_deBruijn64tab), ("internal/strconv.uint64pow10", Rows.laid_internal_strconv_uint64pow10), ("unicode/utf8.acceptRanges", Rows.laid_unicode_utf8_acceptRanges), ("bailment/prove.none", Rows.laid_bailment_prove_none), ("bailment/prove.kinds", Rows.laid_bailment_prove_kinds), ("unicode/utf8.first", Rows.laid_unicode_utf8_first)]
set_option maxRecDepth 100000 in
theorem door_metT (os : Os) (args : Array Value) : laidMetH Tryz.prog laidT ((worldS os).forCall (fun _ _ => 0) ⟨#[], args, []⟩).memory :=
  laidMetH_of_parts3 (fuel := 8) (laidMet_of_run' 8 (by kernel_rfl) (by kernel_rfl)) (by kernel_rfl) (by kernel_rfl)
theorem rel_of_laidT {W : World} (h : laidMetH Tryz.prog laidT W) : Rel Γ29S W noB := by
  obtain ⟨d3, hd3, _⟩ := kinds_out
  refine rel29S (none_cells (laidH_reads h (by simp [laidT]) (by kernel_rfl))) (kinds_cells hd3 (h.funcs (n := "bailment/prove.kinds") ?_)) (pow_cells (laidH_reads h (by simp [laidT]) (by kernel_rfl)))
  rw [← hd3]
  simp [laidT]
end Go.Proofs.YtjimmpldofoimaaGreatDoor
