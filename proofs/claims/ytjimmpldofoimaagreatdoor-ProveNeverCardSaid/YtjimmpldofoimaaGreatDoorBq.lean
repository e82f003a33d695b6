import Derived.Test.YtjimmpldofoimaaGreatDoorBz
import Derived.Test.YtjimmpldofoimaaGreatDoorV1
import Derived.Test.YtjimmpldofoimaaGreatDoorWh
import Derived.Test.YtjimmpldofoimaaGreatDoorXc
import Derived.Test.YtjimmpldofoimaaGreatDoorXf
import Derived.Test.YtjimmpldofoimaaGreatDoorRows
import Derived.LaidMore
import Derived.LaidHandle
import Derived.Lib.LaidU8
import Derived.Stop.Joined
import Derived.Lib.LaidTab
set_option linter.unusedVariables false
set_option linter.unusedSimpArgs false
namespace Go.AL
open Go.Proofs Go.Deep Go.ChangeShapes Go.WideShapes
section
variable {H : Type} {enc : TypeId × Value → H} {w : World} {base : Nat} {spare : Nat → Bool} {held : Bool}
variable {v : Value} {d : DataW H} {q : List MemPlace} {r : Reach} {b0 : Nat}
set_option maxRecDepth 20000 in
theorem arg46 (hval : Value.okWide Tryz.prog w r b0 46 v) (h : DataW.Trod enc Tryz.prog w base spare held 46 v d q) : ∃ l : List Int, l.length ≤ maxLen ∧ Rep w noB (slI l) v := by
 obtain ⟨a, n, c, rfl⟩ := okWide_slice us46 hval
 obtain ⟨fuel, hf⟩ := h
 obtain ⟨l, h1, h2⟩ := opn46 _ _ _ hf
 cases h2 with
 | cons h3 _ => exact ⟨l, h1, h3⟩
end
end Go.AL

namespace Go.AL
open Go.Proofs Go.Deep Go.ChangeShapes Go.WideShapes
section
variable {H : Type} {enc : TypeId × Value → H} {w : World} {base : Nat} {spare : Nat → Bool} {held : Bool}
set_option maxRecDepth 20000 in
theorem opn138 : Opn enc Tryz.prog w base spare held 138 ndC (fun _ => True) := by
 intro fuel cs x h
 obtain ⟨xs, n, rfl, rfl, hl, hxl, hf⟩ := DataW.trod_struct (fieldsOf_some fs138) h
 have hl4 : cs.length = 4 := hl.trans (by kernel_rfl)
 match cs, hl4 with
 | [c0, c1, c2, c3], _ =>
  have f0 := hf 0 _ rfl
  have f1 := hf 1 _ rfl
  have f2 := hf 2 _ rfl
  have e0 : Tryz.prog.cellsOf 46 = 1 := by kernel_rfl
  have e1 : Tryz.prog.cellsOf 3 = 1 := by kernel_rfl
  have e2 : Tryz.prog.cellsOf 88 = 2 := by kernel_rfl
  simp only [List.size_toArray, List.length_cons, List.length_nil] at hxl
  match xs, hxl with
  | [x0, x1, x2], _ =>
   simp only [e0, e1, e2, List.drop_zero, List.drop_succ_cons, List.take_succ_cons, List.take_zero, List.getElem?_cons_zero, List.getElem?_cons_succ] at f0 f1 f2
   obtain ⟨a, _, h1⟩ := opn_int us3 _ _ _ f0
   obtain ⟨t, _, h2⟩ := opn88 _ _ _ f1
   obtain ⟨l, _, h3⟩ := opn46 _ _ _ f2
   exact ⟨⟨a, t, l⟩, trivial, h1.append (h2.append h3)⟩
theorem opn58 : Opn enc Tryz.prog w base spare held 58 (fun l : List Nd => [slN l]) (fun l => l.length ≤ maxLen ∧ ∀ n ∈ l, True) :=
 opn_slice us58 (s := 4) (by kernel_rfl) ndC_len opn138
set_option maxRecDepth 20000 in
theorem opn60 : Opn enc Tryz.prog w base spare held 60 fmC (fun f => f.nodes.length ≤ maxLen) := by
 intro fuel cs x h
 obtain ⟨xs, n, rfl, rfl, hl, hxl, hf⟩ := DataW.trod_struct (fieldsOf_some fs60) h
 have hl2 : cs.length = 2 := hl.trans (by kernel_rfl)
 match cs, hl2 with
 | [c0, c1], _ =>
  have f0 := hf 0 _ rfl
  have f1 := hf 1 _ rfl
  have e0 : Tryz.prog.cellsOf 58 = 1 := by kernel_rfl
  have e1 : Tryz.prog.cellsOf 3 = 1 := by kernel_rfl
  simp only [List.size_toArray, List.length_cons, List.length_nil] at hxl
  match xs, hxl with
  | [x0, x1], _ =>
   simp only [e0, e1, List.drop_zero, List.drop_succ_cons, List.take_succ_cons, List.take_zero, List.getElem?_cons_zero, List.getElem?_cons_succ] at f0 f1
   obtain ⟨a, _, h1⟩ := opn_int us3 _ _ _ f0
   obtain ⟨l, h2, h3⟩ := opn58 _ _ _ f1
   exact ⟨⟨a, l⟩, h2.1, h1.append h3⟩
variable {v : Value} {d : DataW H} {q : List MemPlace} {r : Reach} {b0 : Nat}
set_option maxRecDepth 20000 in
theorem arg60 (hval : Value.okWide Tryz.prog w r b0 60 v) (h : DataW.Trod enc Tryz.prog w base spare held 60 v d q) : ∃ f : Fm, f.nodes.length ≤ maxLen ∧ Rep w noB (fmA f) v := by
 obtain ⟨cs, rfl, _⟩ := okWide_struct (fieldsOf_some fs60) hval
 obtain ⟨fuel, hf⟩ := h
 obtain ⟨t, h1, h2⟩ := opn60 _ _ _ hf
 have := Rep.agg h2
 simp only [Value.cells, Array.toArray_toList] at this
 exact ⟨t, h1, this⟩
end
end Go.AL

namespace Go.AL
open Go.Proofs Go.Proofs.YtjimmpldofoimaaGreatDoor Go.ChangeShapes Go.WideShapes
theorem gNone : Tryz.prog.globalNamed "bailment/prove.none" = some 1 := by kernel_rfl
theorem gKinds : Tryz.prog.globalNamed "bailment/prove.kinds" = some 3 := by kernel_rfl
theorem tNone : (Tryz.prog.globals[1]?).map (·.type) = some 307 := by kernel_rfl
theorem uNone : Tryz.prog.underlying 307 = some (.array 2 3) := by kernel_rfl
theorem cNone : Tryz.prog.cellsOf 307 = 2 := by kernel_rfl
theorem tKinds : (Tryz.prog.globals[3]?).map (·.type) = some 332 := by kernel_rfl
theorem uKinds : Tryz.prog.underlying 332 = some (.array 2 331) := by kernel_rfl
theorem cKinds : Tryz.prog.cellsOf 332 = 6 := by kernel_rfl
theorem c331 : Tryz.prog.cellsOf 331 = 3 := by kernel_rfl
set_option maxRecDepth 20000 in
theorem none_cells {W : World} (h : Go.Lib.VarReads Tryz.prog W "bailment/prove.none" Rows.laid_bailment_prove_none) : ∃ vs, Reps W noB [int 0, int 0] vs ∧ GlobAt W noB 1 vs := by
 obtain ⟨g, t, cs, fuel, q, h1, h2, h3, h4⟩ := h
 obtain rfl := Option.some.inj (gNone.symm.trans h1)
 obtain rfl := Option.some.inj (tNone.symm.trans h2)
 have hrun := globAt_var gNone h3
 obtain ⟨xs, m, rfl, hx1, hlen, hn2, hel⟩ := DataW.trod_array uNone h4
 have f0 := hel 0 (by decide)
 have f1 := hel 1 (by decide)
 simp only [Prod.mk.injEq] at hx1
 match xs, hn2, hx1, f0, f1 with
 | [x0, x1], _, hx1, f0, f1 =>
  have hd : Rows.laid_bailment_prove_none (H := Unit) = .agg [.lit (.int .i64 0), .lit (.int .i64 0)] := rfl
  rw [hd] at hx1
  simp only [List.map_cons, List.map_nil, DataW.agg.injEq, List.cons.injEq] at hx1
  obtain ⟨n0, e0, q0, _⟩ := DataW.trod_int us3 (show DataW.trod _ Tryz.prog W 0 _ false m 3 _ = some x0 from f0)
  obtain ⟨n1, e1, q1, _⟩ := DataW.trod_int us3 (show DataW.trod _ Tryz.prog W 0 _ false m 3 _ = some x1 from f1)
  have z0 : n0 = 0 := by rw [q0] at hx1; simpa using hx1.1.1.symm
  have z1 : n1 = 0 := by rw [q1] at hx1; simpa using hx1.1.2.1.symm
  subst z0; subst z1
  rw [cNone] at hlen
  refine ⟨cs.toList, ?_, hrun⟩
  match hcs : cs.toList, hlen with
  | [a, b], _ =>
   rw [hcs, c3] at e0 e1
   simp only [Nat.zero_mul, Nat.one_mul, List.drop_zero, List.drop_succ_cons, List.take_succ_cons, List.take_zero, List.cons.injEq, and_true] at e0 e1
   subst e0; subst e1
   exact .cons (.v _) (.cons (.v _) .nil)
theorem c224 : Tryz.prog.cellsOf 224 = 1 := by kernel_rfl
theorem c329 : Tryz.prog.cellsOf 329 = 1 := by kernel_rfl
theorem u224 : Tryz.prog.underlying 224 = some (.func #[3] #[4] false) := by kernel_rfl
theorem u329 : Tryz.prog.underlying 329 = some (.func #[46] #[179] false) := by kernel_rfl
section
variable {H : Type} {enc : TypeId × Value → H} {P : Program} {w : World} {base : Nat} {spare : Nat → Bool}
theorem trod_fn {t : TypeId} {a b : Array TypeId} {c : Bool} {fuel : Nat} {cs : List Value} {x : DataW H × List MemPlace} (ht : P.underlying t = some (.func a b c)) (h : DataW.trod enc P w base spare true fuel t cs = some x) : (cs = [.nilFunc] ∧ x = (.nil, [])) ∨ ∃ fn f u, cs = [.func fn f u] ∧ x = (.held (enc (t, .func fn f u)), []) := by
 cases fuel with
 | zero => simp [DataW.trod] at h
 | succ n =>
  unfold DataW.trod at h
  rw [ht] at h
  split at h <;> first
   | (simp_all; done)
   | (simp_all; exact ⟨_, _, _, ⟨rfl, rfl, rfl⟩, h.symm⟩)
end
theorem fn_named {t : TypeId} {fn : Fn} {a b : Array Value} {name : String} {l : List UInt8} {N : Nat} (h : funcToken Tryz.prog (t, .func fn a b) = l) (hl : name.toUTF8.data.toList = l) (hne : l ≠ []) (hN : Tryz.prog.funcNamed name = some N) : Value.func fn a b = .func (.func N) #[] #[] := by
 subst hl
 cases fn with
 | func f =>
  simp only [funcToken] at h
  split at h
  ·rename_i hab
   rw [Bool.and_eq_true] at hab
   have ha : a = #[] := by simpa using hab.1
   have hb : b = #[] := by simpa using hab.2
   split at h
   ·rename_i fn' hf
    split at h
    ·rename_i hnm
     have e1 : fn'.name.toUTF8 = name.toUTF8 := by
      have : fn'.name.toUTF8.data = name.toUTF8.data := Array.toList_inj.1 h
      exact ByteArray.ext this
     have e2 : fn'.name = name := by
      exact String.toByteArray_inj.1 e1
     rw [e2, hN] at hnm
     have : N = f := by simpa using hnm
     rw [this, ha, hb]
    ·exact absurd h.symm hne
   ·exact absurd h.symm hne
  ·exact absurd h.symm hne
 | _ => exact absurd h.symm hne
set_option maxRecDepth 20000 in
theorem row331 {W : World} {m : Nat} {cs : List Value} {a b c : DataW (List UInt8)} {q : List MemPlace} (h : DataW.trod (funcToken Tryz.prog) Tryz.prog W 0 (fun _ => true) true m 331 cs = some (.agg [a, b, c], q)) : ∃ s u v, cs = [.string s, u, v] ∧ a = .lit (.string s.data.toList) ∧ ((u = .nilFunc ∧ b = .nil) ∨ ∃ fn f x, u = .func fn f x ∧ b = .held (funcToken Tryz.prog (224, .func fn f x))) ∧ ((v = .nilFunc ∧ c = .nil) ∨ ∃ fn f x, v = .func fn f x ∧ c = .held (funcToken Tryz.prog (329, .func fn f x))) := by
 obtain ⟨xs, n, rfl, hx, hl, hxl, hf⟩ := DataW.trod_struct (fieldsOf_some fs331) h
 have hl3 : cs.length = 3 := hl.trans c331
 match cs, hl3 with
 | [c0, c1, c2], _ =>
  have f0 := hf 0 _ rfl
  have f1 := hf 1 _ rfl
  have f2 := hf 2 _ rfl
  simp only [List.size_toArray, List.length_cons, List.length_nil] at hxl
  match xs, hxl with
  | [x0, x1, x2], _ =>
   simp only [c9, c224, c329, List.drop_zero, List.drop_succ_cons, List.take_succ_cons, List.take_zero, List.getElem?_cons_zero, List.getElem?_cons_succ] at f0 f1 f2
   obtain ⟨y0, q0⟩ := x0
   obtain ⟨y1, q1⟩ := x1
   obtain ⟨y2, q2⟩ := x2
   have hx' : DataW.agg [a, b, c] = DataW.agg [y0, y1, y2] := congrArg Prod.fst hx
   have hx0 := DataW.agg.inj hx'
   simp only [List.cons.injEq, and_true] at hx0
   obtain ⟨rfl, rfl, rfl⟩ := hx0
   obtain ⟨s, h1, h2, _⟩ := DataW.trod_string us9 f0
   obtain rfl : c0 = .string s := (List.cons.inj h1).1
   refine ⟨s, c1, c2, rfl, congrArg Prod.fst h2, ?_, ?_⟩
   ·rcases trod_fn u224 f1 with ⟨h5, h6⟩ | ⟨fn, f, u, h5, h6⟩
    ·exact .inl ⟨(List.cons.inj h5).1, congrArg Prod.fst h6⟩
    ·exact .inr ⟨fn, f, u, (List.cons.inj h5).1, congrArg Prod.fst h6⟩
   ·rcases trod_fn u329 f2 with ⟨h5, h6⟩ | ⟨fn, f, u, h5, h6⟩
    ·exact .inl ⟨(List.cons.inj h5).1, congrArg Prod.fst h6⟩
    ·exact .inr ⟨fn, f, u, (List.cons.inj h5).1, congrArg Prod.fst h6⟩
theorem kinds_out : ∃ d : DataW Unit, Rows.laid_bailment_prove_kinds (H := Unit) = .iface "func table" d ∧ d.funcsOut = .agg [.agg [.lit (.string [108, 101, 97, 102]), .held [98, 97, 105, 108, 109, 101, 110, 116, 47, 112, 114, 111, 118, 101, 46, 107, 105, 110, 100, 115, 36, 49], .held [98, 97, 105, 108, 109, 101, 110, 116, 47, 112, 114, 111, 118, 101, 46, 107, 105, 110, 100, 115, 36, 50]], .agg [.lit (.string [115, 112, 108, 105, 116]), .held [98, 97, 105, 108, 109, 101, 110, 116, 47, 112, 114, 111, 118, 101, 46, 107, 105, 110, 100, 115, 36, 51], .held [98, 97, 105, 108, 109, 101, 110, 116, 47, 112, 114, 111, 118, 101, 46, 107, 105, 110, 100, 115, 36, 52]]] := by
 unfold Rows.laid_bailment_prove_kinds
 refine ⟨_, rfl, ?_⟩
 simp only [DataW.funcsOut, DataW.funcsOutAll]
 rfl
theorem fn_held {t : TypeId} {v : Value} {name : String} {l : List UInt8} {N : Nat} (k : (v = .nilFunc ∧ DataW.held (H := List UInt8) l = .nil) ∨ ∃ fn f x, v = .func fn f x ∧ DataW.held (H := List UInt8) l = .held (funcToken Tryz.prog (t, .func fn f x))) (hl : name.toUTF8.data.toList = l) (hne : l ≠ []) (hN : Tryz.prog.funcNamed name = some N) : v = .func (.func N) #[] #[] := by
 rcases k with ⟨_, h⟩ | ⟨fn, f, u, rfl, h⟩
 ·cases h
 ·exact fn_named (DataW.held.inj h).symm hl hne hN
set_option maxRecDepth 20000 in
set_option maxHeartbeats 1000000 in
theorem kinds_cells {W : World} {d : DataW Unit} (hd : Rows.laid_bailment_prove_kinds (H := Unit) = .iface "func table" d) (h : funcsAt Tryz.prog W "bailment/prove.kinds" d) : ∃ vs, Reps W noB kindsT vs ∧ GlobAt W noB 3 vs := by
 obtain ⟨d', hd', hdd⟩ := kinds_out
 rw [hd] at hd'
 simp only [DataW.iface.injEq, true_and] at hd'
 subst hd'
 obtain ⟨g, t, cs, fuel, q, h1, h2, h3, h4⟩ := h
 obtain rfl := Option.some.inj (gKinds.symm.trans h1)
 obtain rfl := Option.some.inj (tKinds.symm.trans h2)
 have hrun := globAt_var gKinds h3
 obtain ⟨xs, m, rfl, hx1, hlen, hn2, hel⟩ := DataW.trod_array uKinds h4
 have f0 := hel 0 (by decide)
 have f1 := hel 1 (by decide)
 simp only [Prod.mk.injEq] at hx1
 rw [hdd] at hx1
 match xs, hn2, hx1, f0, f1 with
 | [⟨x0, q0⟩, ⟨x1, q1⟩], _, hx1, f0, f1 =>
  simp only [List.map_cons, List.map_nil, DataW.agg.injEq, List.cons.injEq, and_true] at hx1
  obtain ⟨⟨rfl, rfl⟩, _⟩ := hx1
  obtain ⟨s0, u0, v0, e0, d0, k0, l0⟩ := row331 f0
  obtain ⟨s1, u1, v1, e1, d1, k1, l1⟩ := row331 f1
  rw [cKinds] at hlen
  refine ⟨cs.toList, ?_, hrun⟩
  match hcs : cs.toList, hlen with
  | [z0, z1, z2, z3, z4, z5], _ =>
   rw [hcs, c331] at e0 e1
   simp only [Nat.zero_mul, Nat.one_mul, List.drop_zero, List.drop_succ_cons, List.take_succ_cons, List.take_zero, List.cons.injEq, and_true] at e0 e1
   obtain ⟨e00, e01, e02⟩ := e0
   obtain ⟨e10, e11, e12⟩ := e1
   subst e00 e01 e02 e10 e11 e12
   simp only [DataW.lit.injEq, Lit.string.injEq] at d0 d1
   rw [str_of_list d0.symm, str_of_list d1.symm]
   have w1 := fn_held k0 (name := "bailment/prove.kinds$1") (by kernel_rfl) (by simp) (N := 322) (by kernel_rfl)
   have w2 := fn_held l0 (name := "bailment/prove.kinds$2") (by kernel_rfl) (by simp) (N := 323) (by kernel_rfl)
   have w4 := fn_held k1 (name := "bailment/prove.kinds$3") (by kernel_rfl) (by simp) (N := 324) (by kernel_rfl)
   have w5 := fn_held l1 (name := "bailment/prove.kinds$4") (by kernel_rfl) (by simp) (N := 325) (by kernel_rfl)
   subst w1; subst w2; subst w4; subst w5
   exact .cons (.v _) (.cons (.fn .nil .nil) (.cons (.fn .nil .nil) (.cons (.v _) (.cons (.fn .nil .nil) (.cons (.fn .nil .nil) .nil)))))
end Go.AL

namespace Go.Proofs.YtjimmpldofoimaaGreatDoor
open Go.AL Go.ChangeShapes Go.WideShapes Go.ChangeAt Go.WideMaps Go.WideElems Go.RowKit
end Go.Proofs.YtjimmpldofoimaaGreatDoor

namespace Go.AL
open Go.Proofs Go.Proofs.YtjimmpldofoimaaGreatDoor Go.ChangeShapes Go.WideShapes
theorem gFNone : Tryz.prog.globalNamed "bailment/formula.none" = some 2 := by kernel_rfl
theorem gSorts : Tryz.prog.globalNamed "bailment/formula.sorts" = some 0 := by kernel_rfl
theorem tFNone : (Tryz.prog.globals[2]?).map (·.type) = some 234 := by kernel_rfl
theorem uFNone : Tryz.prog.underlying 234 = some (.array 2 3) := by kernel_rfl
theorem cFNone : Tryz.prog.cellsOf 234 = 2 := by kernel_rfl
theorem tSorts : (Tryz.prog.globals[0]?).map (·.type) = some 222 := by kernel_rfl
theorem uSorts : Tryz.prog.underlying 222 = some (.array 5 221) := by kernel_rfl
theorem cSorts : Tryz.prog.cellsOf 222 = 15 := by kernel_rfl
theorem c221 : Tryz.prog.cellsOf 221 = 3 := by kernel_rfl
theorem c4 : Tryz.prog.cellsOf 4 = 1 := by kernel_rfl
theorem c219 : Tryz.prog.cellsOf 219 = 1 := by kernel_rfl
theorem u219 : Tryz.prog.underlying 219 = some (.func #[211] #[4] false) := by kernel_rfl
theorem tPow : (Tryz.prog.globals[5]?).map (·.type) = some 375 := by kernel_rfl
theorem uPow : Tryz.prog.underlying 375 = some (.array 20 368) := by kernel_rfl
theorem uPowE : Tryz.prog.underlying 368 = some (.int .u64) := by kernel_rfl
theorem cPowE : Tryz.prog.cellsOf 368 = 1 := by kernel_rfl
theorem cPow : Tryz.prog.cellsOf 375 = 20 := by kernel_rfl
theorem fnone_cells {W : World} (h : Go.Lib.VarReads Tryz.prog W "bailment/formula.none" Rows.laid_bailment_formula_none) : ∃ vs, Reps W noB [int 0, int 0] vs ∧ GlobAt W noB 2 vs := by
 obtain ⟨g, t, cs, fuel, q, h1, h2, h3, h4⟩ := h
 obtain rfl := Option.some.inj (gFNone.symm.trans h1)
 obtain rfl := Option.some.inj (tFNone.symm.trans h2)
 have hd : Rows.laid_bailment_formula_none (H := Unit) = Lib.tabData .i64 [0, 0] := rfl
 rw [hd] at h4
 have := Lib.cells_of_tab uFNone us3 c3 cFNone h4
 refine ⟨cs.toList, ?_, globAt_var gFNone h3⟩
 rw [this]
 exact .cons (.v _) (.cons (.v _) .nil)
theorem pow_cells {W : World} (h : Go.Lib.VarReads Tryz.prog W "internal/strconv.uint64pow10" Rows.laid_internal_strconv_uint64pow10) : ∃ vs, Reps W noB powT vs ∧ GlobAt W noB 5 vs := by
 obtain ⟨g, t, cs, fuel, q, h1, h2, h3, h4⟩ := h
 obtain rfl := Option.some.inj (gPow.symm.trans h1)
 obtain rfl := Option.some.inj (tPow.symm.trans h2)
 have hd : Rows.laid_internal_strconv_uint64pow10 (H := Unit) = Lib.tabData .u64 Lib.pow10Tab := by kernel_rfl
 rw [hd] at h4
 have := Lib.cells_of_tab uPow uPowE cPowE cPow h4
 refine ⟨cs.toList, ?_, globAt_var gPow h3⟩
 rw [this]
 have e : powT = (Lib.pow10Tab.map fun z => Value.int .u64 z).map .v := by rw [powT, List.map_map]; rfl
 rw [e]
 exact Reps.vs _
section
variable {H : Type} {enc : TypeId × Value → H} {P : Program} {w : World} {base : Nat} {spare : Nat → Bool}
theorem trod_func {t : TypeId} {a b : Array TypeId} {c : Bool} {fuel : Nat} {cs : List Value} {x : DataW H × List MemPlace} (ht : P.underlying t = some (.func a b c)) (h : DataW.trod enc P w base spare true fuel t cs = some x) : (cs = [.nilFunc] ∧ x = (.nil, [])) ∨ ∃ fn f u, cs = [.func fn f u] ∧ x = (.held (enc (t, .func fn f u)), []) := by
 cases fuel with
 | zero => simp [DataW.trod] at h
 | succ n =>
  unfold DataW.trod at h
  rw [ht] at h
  split at h <;> first
   | (simp_all; done)
   | (simp_all; exact ⟨_, _, _, ⟨rfl, rfl, rfl⟩, h.symm⟩)
end
set_option maxRecDepth 20000 in
theorem row221 {W : World} {m : Nat} {cs : List Value} {a b c : DataW (List UInt8)} {q : List MemPlace} (h : DataW.trod (funcToken Tryz.prog) Tryz.prog W 0 (fun _ => true) true m 221 cs = some (.agg [a, b, c], q)) : ∃ s bo v, cs = [.string s, .bool bo, v] ∧ a = .lit (.string s.data.toList) ∧ b = .lit (.bool bo) ∧ ((v = .nilFunc ∧ c = .nil) ∨ ∃ fn f u, v = .func fn f u ∧ c = .held (funcToken Tryz.prog (219, .func fn f u))) := by
 obtain ⟨xs, n, rfl, hx, hl, hxl, hf⟩ := DataW.trod_struct (fieldsOf_some fs221) h
 have hl3 : cs.length = 3 := hl.trans c221
 match cs, hl3 with
 | [c0, c1, c2], _ =>
  have f0 := hf 0 _ rfl
  have f1 := hf 1 _ rfl
  have f2 := hf 2 _ rfl
  simp only [List.size_toArray, List.length_cons, List.length_nil] at hxl
  match xs, hxl with
  | [x0, x1, x2], _ =>
   simp only [c9, c4, c219, List.drop_zero, List.drop_succ_cons, List.take_succ_cons, List.take_zero, List.getElem?_cons_zero, List.getElem?_cons_succ] at f0 f1 f2
   obtain ⟨y0, q0⟩ := x0
   obtain ⟨y1, q1⟩ := x1
   obtain ⟨y2, q2⟩ := x2
   have hx' : DataW.agg [a, b, c] = DataW.agg [y0, y1, y2] := congrArg Prod.fst hx
   have hx0 := DataW.agg.inj hx'
   simp only [List.cons.injEq, and_true] at hx0
   obtain ⟨rfl, rfl, rfl⟩ := hx0
   obtain ⟨s, h1, h2, _⟩ := DataW.trod_string us9 f0
   obtain ⟨bo, h3, h4⟩ := DataW.trod_bool us4 f1
   obtain rfl : c0 = .string s := (List.cons.inj h1).1
   obtain rfl : c1 = .bool bo := (List.cons.inj h3).1
   refine ⟨s, bo, c2, rfl, congrArg Prod.fst h2, congrArg Prod.fst h4, ?_⟩
   rcases trod_func u219 f2 with ⟨h5, h6⟩ | ⟨fn, f, u, h5, h6⟩
   ·exact .inl ⟨(List.cons.inj h5).1, congrArg Prod.fst h6⟩
   ·exact .inr ⟨fn, f, u, (List.cons.inj h5).1, congrArg Prod.fst h6⟩
theorem fn_of {fn : Fn} {a b : Array Value} {name : String} {l : List UInt8} {N : Nat} (h : funcToken Tryz.prog (219, .func fn a b) = l) (hl : name.toUTF8.data.toList = l) (hne : l ≠ []) (hN : Tryz.prog.funcNamed name = some N) : Value.func fn a b = .func (.func N) #[] #[] := by
 subst hl
 cases fn with
 | func f =>
  simp only [funcToken] at h
  split at h
  ·rename_i hab
   rw [Bool.and_eq_true] at hab
   have ha : a = #[] := by simpa using hab.1
   have hb : b = #[] := by simpa using hab.2
   split at h
   ·rename_i fn' hf
    split at h
    ·rename_i hnm
     have e1 : fn'.name.toUTF8 = name.toUTF8 := by
      have : fn'.name.toUTF8.data = name.toUTF8.data := Array.toList_inj.1 h
      exact ByteArray.ext this
     have e2 : fn'.name = name := by
      exact String.toByteArray_inj.1 e1
     rw [e2, hN] at hnm
     have : N = f := by simpa using hnm
     rw [this, ha, hb]
    ·exact absurd h.symm hne
   ·exact absurd h.symm hne
  ·exact absurd h.symm hne
 | _ => exact absurd h.symm hne
theorem sorts_out : ∃ d : DataW Unit, Rows.laid_bailment_formula_sorts (H := Unit) = .iface "func table" d ∧ d.funcsOut = .agg [.agg [.lit (.string [103, 101]), .lit (.bool true), .nil], .agg [.lit (.string [101, 113]), .lit (.bool true), .nil], .agg [.lit (.string [110, 111, 116]), .lit (.bool false), .held [98, 97, 105, 108, 109, 101, 110, 116, 47, 102, 111, 114, 109, 117, 108, 97, 46, 115, 111, 114, 116, 115, 36, 49]], .agg [.lit (.string [97, 110, 100]), .lit (.bool false), .held [98, 97, 105, 108, 109, 101, 110, 116, 47, 102, 111, 114, 109, 117, 108, 97, 46, 115, 111, 114, 116, 115, 36, 50]], .agg [.lit (.string [111, 114]), .lit (.bool false), .held [98, 97, 105, 108, 109, 101, 110, 116, 47, 102, 111, 114, 109, 117, 108, 97, 46, 115, 111, 114, 116, 115, 36, 51]]] := by
 unfold Rows.laid_bailment_formula_sorts
 refine ⟨_, rfl, ?_⟩
 simp only [DataW.funcsOut, DataW.funcsOutAll]
 rfl
set_option maxRecDepth 20000 in
set_option maxHeartbeats 1000000 in
theorem sorts_cells {W : World} {d : DataW Unit} (hd : Rows.laid_bailment_formula_sorts (H := Unit) = .iface "func table" d) (h : funcsAt Tryz.prog W "bailment/formula.sorts" d) : ∃ vs, Reps W noB sortsT vs ∧ GlobAt W noB 0 vs := by
 obtain ⟨d', hd', hdd⟩ := sorts_out
 rw [hd] at hd'
 simp only [DataW.iface.injEq, true_and] at hd'
 subst hd'
 obtain ⟨g, t, cs, fuel, q, h1, h2, h3, h4⟩ := h
 obtain rfl := Option.some.inj (gSorts.symm.trans h1)
 obtain rfl := Option.some.inj (tSorts.symm.trans h2)
 have hrun := globAt_var gSorts h3
 obtain ⟨xs, m, rfl, hx1, hlen, hn2, hel⟩ := DataW.trod_array uSorts h4
 have f0 := hel 0 (by decide)
 have f1 := hel 1 (by decide)
 have f2 := hel 2 (by decide)
 have f3 := hel 3 (by decide)
 have f4 := hel 4 (by decide)
 simp only [Prod.mk.injEq] at hx1
 rw [hdd] at hx1
 match xs, hn2, hx1, f0, f1, f2, f3, f4 with
 | [⟨x0, q0⟩, ⟨x1, q1⟩, ⟨x2, q2⟩, ⟨x3, q3⟩, ⟨x4, q4⟩], _, hx1, f0, f1, f2, f3, f4 =>
  simp only [List.map_cons, List.map_nil, DataW.agg.injEq, List.cons.injEq, and_true] at hx1
  obtain ⟨⟨rfl, rfl, rfl, rfl, rfl⟩, _⟩ := hx1
  obtain ⟨s0, o0, v0, e0, d0, g0, k0⟩ := row221 f0
  obtain ⟨s1, o1, v1, e1, d1, g1, k1⟩ := row221 f1
  obtain ⟨s2, o2, v2, e2, d2, g2, k2⟩ := row221 f2
  obtain ⟨s3, o3, v3, e3, d3, g3, k3⟩ := row221 f3
  obtain ⟨s4, o4, v4, e4, d4, g4, k4⟩ := row221 f4
  rw [cSorts] at hlen
  refine ⟨cs.toList, ?_, hrun⟩
  match hcs : cs.toList, hlen with
  | [z0, z1, z2, z3, z4, z5, z6, z7, z8, z9, z10, z11, z12, z13, z14], _ =>
   rw [hcs, c221] at e0 e1 e2 e3 e4
   simp only [Nat.zero_mul, Nat.one_mul, Nat.reduceMul, List.drop_zero, List.drop_succ_cons, List.take_succ_cons, List.take_zero, List.cons.injEq, and_true] at e0 e1 e2 e3 e4
   obtain ⟨e00, e01, e02⟩ := e0
   obtain ⟨e10, e11, e12⟩ := e1
   obtain ⟨e20, e21, e22⟩ := e2
   obtain ⟨e30, e31, e32⟩ := e3
   obtain ⟨e40, e41, e42⟩ := e4
   subst e00 e01 e02 e10 e11 e12 e20 e21 e22 e30 e31 e32 e40 e41 e42
   simp only [DataW.lit.injEq, Lit.string.injEq, Lit.bool.injEq] at d0 d1 d2 d3 d4 g0 g1 g2 g3 g4
   subst g0; subst g1; subst g2; subst g3; subst g4
   rw [str_of_list d0.symm, str_of_list d1.symm, str_of_list d2.symm, str_of_list d3.symm, str_of_list d4.symm]
   have w0 : z2 = .nilFunc := by rcases k0 with ⟨h, _⟩ | ⟨_, _, _, _, h⟩; exact h; cases h
   have w1 : z5 = .nilFunc := by rcases k1 with ⟨h, _⟩ | ⟨_, _, _, _, h⟩; exact h; cases h
   have w2 : z8 = .func (.func 317) #[] #[] := by
    rcases k2 with ⟨_, h⟩ | ⟨fn, f, u, rfl, h⟩
    ·cases h
    ·exact fn_of (DataW.held.inj h).symm (name := "bailment/formula.sorts$1") (by kernel_rfl) (by simp) (by kernel_rfl)
   have w3 : z11 = .func (.func 318) #[] #[] := by
    rcases k3 with ⟨_, h⟩ | ⟨fn, f, u, rfl, h⟩
    ·cases h
    ·exact fn_of (DataW.held.inj h).symm (name := "bailment/formula.sorts$2") (by kernel_rfl) (by simp) (by kernel_rfl)
   have w4 : z14 = .func (.func 320) #[] #[] := by
    rcases k4 with ⟨_, h⟩ | ⟨fn, f, u, rfl, h⟩
    ·cases h
    ·exact fn_of (DataW.held.inj h).symm (name := "bailment/formula.sorts$3") (by kernel_rfl) (by simp) (by kernel_rfl)
   subst w0; subst w1; subst w2; subst w3; subst w4
   exact .cons (.v _) (.cons (.v _) (.cons (.v _) (.cons (.v _) (.cons (.v _) (.cons (.v _) (.cons (.v _) (.cons (.v _) (.cons (.fn .nil .nil) (.cons (.v _) (.cons (.v _) (.cons (.fn .nil .nil) (.cons (.v _) (.cons (.v _) (.cons (.fn .nil .nil) .nil))))))))))))))
end Go.AL

namespace Go.Proofs.YtjimmpldofoimaaGreatDoor
open Go.AL Go.ChangeShapes Go.WideShapes Go.ChangeAt Go.WideMaps Go.WideElems Go.RowKit
end Go.Proofs.YtjimmpldofoimaaGreatDoor

namespace Go.AL
open Go.Proofs
def ΓB : Glob := fun g => if g = 0 then some sortsT else if g = 1 then some [int 0, int 0] else if g = 2 then some [int 0, int 0] else if g = 3 then some kindsT else if g = 5 then some powT else none
theorem relB {W : World} (h0 : ∃ vs, Reps W noB sortsT vs ∧ GlobAt W noB 0 vs) (h1 : ∃ vs, Reps W noB [int 0, int 0] vs ∧ GlobAt W noB 1 vs) (h2 : ∃ vs, Reps W noB [int 0, int 0] vs ∧ GlobAt W noB 2 vs) (h3 : ∃ vs, Reps W noB kindsT vs ∧ GlobAt W noB 3 vs) (h5 : ∃ vs, Reps W noB powT vs ∧ GlobAt W noB 5 vs) : Rel ΓB W noB := by
 refine ⟨fun b x h => (by cases h), fun g cs h => ?_⟩
 unfold ΓB at h
 split at h
 ·subst_vars; cases h; exact h0
 ·split at h
  ·subst_vars; cases h; exact h1
  ·split at h
   ·subst_vars; cases h; exact h2
   ·split at h
    ·subst_vars; cases h; exact h3
    ·split at h
     ·subst_vars; cases h; exact h5
     ·cases h
end Go.AL
namespace Go.Proofs.YtjimmpldofoimaaGreatDoor
open Go.AL Go.ChangeShapes Go.WideShapes Go.ChangeAt Go.WideMaps Go.WideElems Go.RowKit
end Go.Proofs.YtjimmpldofoimaaGreatDoor

namespace Go.Proofs.YtjimmpldofoimaaGreatDoor
open Go.AL Go.ChangeShapes Go.WideShapes Go.ChangeAt Go.WideMaps Go.WideElems Go.RowKit
noncomputable def worldS (os : Os) : World :=
 { World.doorLaid Tryz.prog 61 os with heap := (World.doorLaid Tryz.prog 61 os).heap.modify 6 fun o => match o with
  | .cells _ t fz => .cells (Go.Pinned.utf8FirstZ.map fun n : Nat => Value.int .u8 (n : Int)).toArray t fz
  | o => o }
end Go.Proofs.YtjimmpldofoimaaGreatDoor

namespace Go.AL
open Go.Proofs
end Go.AL
namespace Go.Proofs.YtjimmpldofoimaaGreatDoor
open Go.AL Go.ChangeShapes Go.WideShapes Go.ChangeAt Go.WideMaps Go.WideElems Go.RowKit
end Go.Proofs.YtjimmpldofoimaaGreatDoor

namespace Go.Proofs.YtjimmpldofoimaaGreatDoor
open Go.AL Go.ChangeShapes Go.WideShapes Go.ChangeAt Go.WideMaps Go.WideElems Go.RowKit
def laidU : List (String × DataW Unit) := [("math/bits.deBruijn32tab", Rows.laid_math_bits_deBruijn32tab), ("math/bits.deBruijn64tab", Rows.laid_math_bits_deBruijn64tab), ("internal/strconv.uint64pow10", Rows.laid_internal_strconv_uint64pow10), ("unicode/utf8.acceptRanges", Rows.laid_unicode_utf8_acceptRanges), ("bailment/formula.sorts", Rows.laid_bailment_formula_sorts), ("bailment/formula.none", Rows.laid_bailment_formula_none), ("bailment/prove.none", Rows.laid_bailment_prove_none), ("bailment/prove.kinds", Rows.laid_bailment_prove_kinds), ("unicode/utf8.first", Rows.laid_unicode_utf8_first)]
set_option maxRecDepth 100000 in
theorem door_metU (os : Os) (args : Array Value) : laidMetH Tryz.prog laidU ((worldS os).forCall (fun _ _ => 0) ⟨#[], args, []⟩).memory :=
 laidMetH_of_parts3 (fuel := 8) (laidMet_of_run' 8 (by kernel_rfl) (by kernel_rfl)) (by kernel_rfl) (by kernel_rfl)
theorem rel_of_laidU {W : World} (h : laidMetH Tryz.prog laidU W) : Rel ΓB W noB := by
 obtain ⟨d, hd, _⟩ := sorts_out
 obtain ⟨d3, hd3, _⟩ := kinds_out
 refine relB (sorts_cells hd (h.funcs (n := "bailment/formula.sorts") ?_)) (none_cells (laidH_reads h (by simp [laidU]) (by kernel_rfl))) (fnone_cells (laidH_reads h (by simp [laidU]) (by kernel_rfl))) (kinds_cells hd3 (h.funcs (n := "bailment/prove.kinds") ?_)) (pow_cells (laidH_reads h (by simp [laidU]) (by kernel_rfl)))
 ·rw [← hd]
  simp [laidU]
 ·rw [← hd3]
  simp [laidU]
end Go.Proofs.YtjimmpldofoimaaGreatDoor
