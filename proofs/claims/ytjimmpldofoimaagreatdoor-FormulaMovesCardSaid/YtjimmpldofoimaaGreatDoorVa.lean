/- The library contracts of strings.Join and strconv.Itoa, laid at this dump by the shelf's lay-shelf and lay-plain (part of what they wrote). -/
import Derived.Test.YtjimmpldofoimaaGreatDoorV1
import Derived.Shelf.Strings.OnBuilder
import Derived.Shelf.LaysM
import Derived.Shelf.Strconv.Itoa3
import Derived.Test.YtjimmpldofoimaaGreatDoorProg
open Nat renaming reduceEqDiff → xQ, reduceAdd → xA, reduceMul → xM, reduceLeDiff → xL
open Int renaming reduceLT → xT, reduceLE → xE, reduceToNat → xN
open Go.AL renaming retPost_one → xP, retPost_oneN → xR, ers_at' → xS
namespace Go.Proofs
open Go.Shelf
def Tryz.lays156_ren : Go.Shelf.Ren := ⟨fun | 156 => 182 | 165 => 236 | 166 => 191 | 169 => 194 | 240 => 243 | 241 => 261 | 276 => 265 | 277 => 275 | n => n, fun | 31 => 267 | 9 => 9 | 3 => 3 | 4 => 4 | 0 => 0 | 20 => 20 | 72 => 286 | 76 => 290 | 70 => 283 | 37 => 284 | 75 => 289 | 127 => 338 | 164 => 353 | 5 => 5 | 80 => 270 | n => n, fun | n => n⟩
theorem Tryz.lays156 : Go.Proofs.Lays.n156 Tryz.prog Tryz.lays156_ren := {
  mixed := by kernel_rfl
  f156 := Tryz.func182.trans (congrArg some (by kernel_rfl))
  f165 := Tryz.func236.trans (congrArg some (by kernel_rfl))
  f166 := Tryz.func191.trans (congrArg some (by kernel_rfl))
  f169 := Tryz.func194.trans (congrArg some (by kernel_rfl))
  f240 := Tryz.func243.trans (congrArg some (by kernel_rfl))
  f241 := Tryz.func261.trans (congrArg some (by kernel_rfl))
  f276 := Tryz.func265.trans (congrArg some (by kernel_rfl))
  f277 := Tryz.func275.trans (congrArg some (by kernel_rfl))
  t0 := Tryz.underlying0
  a0 := Tryz.isAgg0
  z0 := Tryz.sizeOf0
  v0 := Tryz.zeroValue0
  t3 := Tryz.underlying3
  a3 := Tryz.isAgg3
  z3 := Tryz.sizeOf3
  v3 := Tryz.zeroValue3
  t4 := Tryz.underlying4
  a4 := Tryz.isAgg4
  z4 := Tryz.sizeOf4
  v4 := Tryz.zeroValue4
  t9 := Tryz.underlying9
  a9 := Tryz.isAgg9
  z9 := Tryz.sizeOf9
  v9 := Tryz.zeroValue9
  t20 := Tryz.underlying20
  a20 := Tryz.isAgg20
  z20 := Tryz.sizeOf20
  v20 := Tryz.zeroValue20
  t31 := Tryz.underlying267
  a31 := Tryz.isAgg267
  z31 := Tryz.sizeOf267
  v31 := Tryz.zeroValue267
  t37 := Tryz.underlying284
  a37 := Tryz.isAgg284
  z37 := Tryz.sizeOf284
  v37 := Tryz.zeroValue284
  t70 := Tryz.underlying283
  a70 := Tryz.isAgg283
  z70 := Tryz.sizeOf283
  v70 := Tryz.zeroValue283
  t72 := Tryz.underlying286
  a72 := Tryz.isAgg286
  z72 := Tryz.sizeOf286
  v72 := Tryz.zeroValue286
  t75 := Tryz.underlying289
  a75 := Tryz.isAgg289
  z75 := Tryz.sizeOf289
  v75 := Tryz.zeroValue289
  t76 := Tryz.underlying290
  a76 := Tryz.isAgg290
  z76 := Tryz.sizeOf290
  v76 := Tryz.zeroValue290
  t127 := Tryz.underlying338
  a127 := Tryz.isAgg338
  z127 := Tryz.sizeOf338
  v127 := Tryz.zeroValue338
  t164 := Tryz.underlying353
  a164 := Tryz.isAgg353
  z164 := Tryz.sizeOf353
  v164 := Tryz.zeroValue353 }
theorem Tryz.Builder_Extra_156 : Builder.Extra Tryz.prog Tryz.lays156_ren := {
  sizeBuilder := by kernel_rfl
  liesBuilder := by kernel_rfl
  t5 := Tryz.underlying5
  a5 := Tryz.isAgg5
  z5 := Tryz.sizeOf5
  v5 := Tryz.zeroValue5
  infoByte := by kernel_rfl
  cellsByte := by kernel_rfl
  sizeByte := by kernel_rfl
  neB5 := by decide }
open Go.RowKit in
/-- No element: the empty string; the world is as it was. (Whatever the slice's address and capacity: a nil slice too.) (LAID: no walk: one application.) -/
theorem Tryz.strings_Join_none (a : Option Addr) (c : Nat) (sep : ByteArray) (w : World) :
    Calls Tryz.prog 182 #[.slice a 0 c, .string sep] w fun e w' => e = .returned (.string ⟨#[]⟩) ∧ w' = w := Any.strings_Join_none Tryz.lays156 Tryz.Builder_Extra_156 a c sep w
open Go.RowKit in
/-- strings.Join: "Join concatenates the elements of its first argument to create a single string. The separator string sep is placed between elements in the resulting string.": HOWEVER MANY ELEMENTS. Below the heap's end the world is as it was. (LAID: no walk: one application.) -/
theorem Tryz.strings_Join (bk o c : Nat) (xs : List ByteArray) (sep : ByteArray) (w : World) (hcells : ∀ (j : Nat) x, xs[j]? = some x → w.cell? ⟨bk, o + j, none⟩ = some (.string x)) (hbk : bk < w.heap.size) (hN : xs.length ≤ 140737488355328) (hcap : xs.length ≤ c) (hlen : (Lib.join (xs.map (·.data.toList)) sep.data.toList).length ≤ 140737488355328) :
    Calls Tryz.prog 182 #[.slice (some ⟨bk, o, none⟩) xs.length c, .string sep] w fun e w' => e = .returned (.string ⟨(Lib.join (xs.map (·.data.toList)) sep.data.toList).toArray⟩) ∧ Below w.heap.size w w' := Any.strings_Join Tryz.lays156 Tryz.Builder_Extra_156 bk o c xs sep w hcells hbk hN hcap hlen
def Tryz.laysM171_ren : Go.Shelf.Ren := ⟨fun | 171 => 238 | 243 => 262 | 246 => 276 | 283 => 283 | 284 => 284 | 285 => 285 | 286 => 286 | 129 => 293 | 317 => 292 | 318 => 294 | 319 => 295 | 320 => 296 | 337 => 298 | 338 => 299 | n => n, fun | 3 => 3 | 9 => 9 | 2 => 2 | 4 => 4 | 171 => 367 | 0 => 0 | 53 => 368 | 37 => 284 | 5 => 5 | 173 => 371 | 212 => 375 | 51 => 376 | 20 => 20 | 213 => 377 | 46 => 373 | 232 => 386 | 233 => 387 | n => n, fun | 17 => 5 | 18 => 8 | 19 => 9 | n => n⟩
theorem Tryz.laysM171 : Go.Proofs.LaysM.n171 Tryz.prog Tryz.laysM171_ren := {
  mixed := by kernel_rfl
  f129 := Tryz.func293.trans (congrArg some (by kernel_rfl))
  f171 := Tryz.func238.trans (congrArg some (by kernel_rfl))
  f243 := Tryz.func262.trans (congrArg some (by kernel_rfl))
  f246 := Tryz.func276.trans (congrArg some (by kernel_rfl))
  f283 := Tryz.func283.trans (congrArg some (by kernel_rfl))
  f284 := Tryz.func284.trans (congrArg some (by kernel_rfl))
  f285 := Tryz.func285.trans (congrArg some (by kernel_rfl))
  f286 := Tryz.func286.trans (congrArg some (by kernel_rfl))
  f317 := Tryz.func292.trans (congrArg some (by kernel_rfl))
  f318 := Tryz.func294.trans (congrArg some (by kernel_rfl))
  f319 := Tryz.func295.trans (congrArg some (by kernel_rfl))
  f320 := Tryz.func296.trans (congrArg some (by kernel_rfl))
  f337 := Tryz.func298.trans (congrArg some (by kernel_rfl))
  f338 := Tryz.func299.trans (congrArg some (by kernel_rfl))
  t0 := Tryz.underlying0
  a0 := Tryz.isAgg0
  z0 := Tryz.sizeOf0
  v0 := Tryz.zeroValue0
  t2 := Tryz.underlying2
  a2 := Tryz.isAgg2
  z2 := Tryz.sizeOf2
  v2 := Tryz.zeroValue2
  t3 := Tryz.underlying3
  a3 := Tryz.isAgg3
  z3 := Tryz.sizeOf3
  v3 := Tryz.zeroValue3
  t4 := Tryz.underlying4
  a4 := Tryz.isAgg4
  z4 := Tryz.sizeOf4
  v4 := Tryz.zeroValue4
  t5 := Tryz.underlying5
  a5 := Tryz.isAgg5
  z5 := Tryz.sizeOf5
  v5 := Tryz.zeroValue5
  t9 := Tryz.underlying9
  a9 := Tryz.isAgg9
  z9 := Tryz.sizeOf9
  v9 := Tryz.zeroValue9
  t20 := Tryz.underlying20
  a20 := Tryz.isAgg20
  z20 := Tryz.sizeOf20
  v20 := Tryz.zeroValue20
  t37 := Tryz.underlying284
  a37 := Tryz.isAgg284
  z37 := Tryz.sizeOf284
  v37 := Tryz.zeroValue284
  t46 := Tryz.underlying373
  a46 := Tryz.isAgg373
  z46 := Tryz.sizeOf373
  v46 := Tryz.zeroValue373
  t51 := Tryz.underlying376
  a51 := Tryz.isAgg376
  z51 := Tryz.sizeOf376
  v51 := Tryz.zeroValue376
  t53 := Tryz.underlying368
  a53 := Tryz.isAgg368
  z53 := Tryz.sizeOf368
  v53 := Tryz.zeroValue368
  t171 := Tryz.underlying367
  a171 := Tryz.isAgg367
  z171 := Tryz.sizeOf367
  v171 := Tryz.zeroValue367
  t173 := Tryz.underlying371
  a173 := Tryz.isAgg371
  z173 := Tryz.sizeOf371
  v173 := Tryz.zeroValue371
  t212 := Tryz.underlying375
  a212 := Tryz.isAgg375
  z212 := Tryz.sizeOf375
  v212 := Tryz.zeroValue375
  t213 := Tryz.underlying377
  a213 := Tryz.isAgg377
  z213 := Tryz.sizeOf377
  t232 := Tryz.underlying386
  a232 := Tryz.isAgg386
  z232 := Tryz.sizeOf386
  v232 := Tryz.zeroValue386
  t233 := Tryz.underlying387
  a233 := Tryz.isAgg387
  z233 := Tryz.sizeOf387
  v233 := Tryz.zeroValue387
  g17 := by kernel_rfl
  g18 := by kernel_rfl
  g19 := by kernel_rfl
  i0 := by kernel_rfl
  i2 := by kernel_rfl
  i3 := by kernel_rfl
  i4 := by kernel_rfl
  i5 := by kernel_rfl
  i9 := by kernel_rfl
  i20 := by kernel_rfl
  i37 := by kernel_rfl
  i46 := by kernel_rfl
  i51 := by kernel_rfl
  i53 := by kernel_rfl
  i171 := by kernel_rfl
  i173 := by kernel_rfl
  i212 := by kernel_rfl
  i232 := by kernel_rfl
  i233 := by kernel_rfl
  m17 := by kernel_rfl
  m18 := by kernel_rfl
  m19 := by kernel_rfl }
open Go.RowKit Go.Sort Go.Lib in
/-- strconv.Itoa: "Itoa is equivalent to FormatInt(int64(i), 10).": i's DECIMAL NUMERAL ('Lib.itoa': a '-' where i is negative, then the digits), FOR EVERY int. The world behind the call: the world before it, new blocks behind the heap (the library's 'var a [24]byte'), draws. (LAID: no walk: one application.) -/
theorem Tryz.strconv_Itoa (n : Int) (h0 : -9223372036854775808 ≤ n) (h1 : n ≤ 9223372036854775807) (w : World) (htab : Lib.TabIs Tryz.prog w "internal/strconv.uint64pow10" .u64 Lib.pow10Tab) :
    Calls Tryz.prog 238 #[.int .i64 n] w fun e w' => e = .returned (.string ⟨(Lib.itoa n).toArray⟩) ∧ ∃ k os, w' = grow (w.drewN k) os := Any.strconv_Itoa Tryz.laysM171 n h0 h1 w htab
def Tryz.lays171_ren : Go.Shelf.Ren := ⟨fun | 171 => 238 | 243 => 262 | 246 => 276 | 283 => 283 | 284 => 284 | 285 => 285 | 286 => 286 | 129 => 293 | 317 => 292 | 318 => 294 | 319 => 295 | 320 => 296 | 337 => 298 | 338 => 299 | n => n, fun | 3 => 3 | 9 => 9 | 2 => 2 | 4 => 4 | 171 => 367 | 0 => 0 | 53 => 368 | 37 => 284 | 5 => 5 | 173 => 371 | 212 => 375 | 51 => 376 | 20 => 20 | 213 => 377 | 46 => 373 | 232 => 386 | 233 => 387 | n => n, fun | 17 => 5 | 18 => 8 | 19 => 9 | n => n⟩
theorem Tryz.lays171 : Go.Proofs.Lays.n171 Tryz.prog Tryz.lays171_ren := {
  mixed := by kernel_rfl
  f129 := Tryz.func293.trans (congrArg some (by kernel_rfl))
  f171 := Tryz.func238.trans (congrArg some (by kernel_rfl))
  f243 := Tryz.func262.trans (congrArg some (by kernel_rfl))
  f246 := Tryz.func276.trans (congrArg some (by kernel_rfl))
  f283 := Tryz.func283.trans (congrArg some (by kernel_rfl))
  f284 := Tryz.func284.trans (congrArg some (by kernel_rfl))
  f285 := Tryz.func285.trans (congrArg some (by kernel_rfl))
  f286 := Tryz.func286.trans (congrArg some (by kernel_rfl))
  f317 := Tryz.func292.trans (congrArg some (by kernel_rfl))
  f318 := Tryz.func294.trans (congrArg some (by kernel_rfl))
  f319 := Tryz.func295.trans (congrArg some (by kernel_rfl))
  f320 := Tryz.func296.trans (congrArg some (by kernel_rfl))
  f337 := Tryz.func298.trans (congrArg some (by kernel_rfl))
  f338 := Tryz.func299.trans (congrArg some (by kernel_rfl))
  t0 := Tryz.underlying0
  a0 := Tryz.isAgg0
  z0 := Tryz.sizeOf0
  v0 := Tryz.zeroValue0
  t2 := Tryz.underlying2
  a2 := Tryz.isAgg2
  z2 := Tryz.sizeOf2
  v2 := Tryz.zeroValue2
  t3 := Tryz.underlying3
  a3 := Tryz.isAgg3
  z3 := Tryz.sizeOf3
  v3 := Tryz.zeroValue3
  t4 := Tryz.underlying4
  a4 := Tryz.isAgg4
  z4 := Tryz.sizeOf4
  v4 := Tryz.zeroValue4
  t5 := Tryz.underlying5
  a5 := Tryz.isAgg5
  z5 := Tryz.sizeOf5
  v5 := Tryz.zeroValue5
  t9 := Tryz.underlying9
  a9 := Tryz.isAgg9
  z9 := Tryz.sizeOf9
  v9 := Tryz.zeroValue9
  t20 := Tryz.underlying20
  a20 := Tryz.isAgg20
  z20 := Tryz.sizeOf20
  v20 := Tryz.zeroValue20
  t37 := Tryz.underlying284
  a37 := Tryz.isAgg284
  z37 := Tryz.sizeOf284
  v37 := Tryz.zeroValue284
  t46 := Tryz.underlying373
  a46 := Tryz.isAgg373
  z46 := Tryz.sizeOf373
  v46 := Tryz.zeroValue373
  t51 := Tryz.underlying376
  a51 := Tryz.isAgg376
  z51 := Tryz.sizeOf376
  v51 := Tryz.zeroValue376
  t53 := Tryz.underlying368
  a53 := Tryz.isAgg368
  z53 := Tryz.sizeOf368
  v53 := Tryz.zeroValue368
  t171 := Tryz.underlying367
  a171 := Tryz.isAgg367
  z171 := Tryz.sizeOf367
  v171 := Tryz.zeroValue367
  t173 := Tryz.underlying371
  a173 := Tryz.isAgg371
  z173 := Tryz.sizeOf371
  v173 := Tryz.zeroValue371
  t212 := Tryz.underlying375
  a212 := Tryz.isAgg375
  z212 := Tryz.sizeOf375
  v212 := Tryz.zeroValue375
  t213 := Tryz.underlying377
  a213 := Tryz.isAgg377
  z213 := Tryz.sizeOf377
  t232 := Tryz.underlying386
  a232 := Tryz.isAgg386
  z232 := Tryz.sizeOf386
  v232 := Tryz.zeroValue386
  t233 := Tryz.underlying387
  a233 := Tryz.isAgg387
  z233 := Tryz.sizeOf387
  v233 := Tryz.zeroValue387
  g17 := by kernel_rfl
  g18 := by kernel_rfl
  g19 := by kernel_rfl }
open Go.RowKit Go.Sort Go.Lib in
/-- THE ROAD WITHOUT THE TABLE: 0 <= i < 100: NO PREMISE ON THE WORLD, AND THE WORLD IS AS IT WAS: a row that keeps its argument in that range need list no table ('laid = []'). (LAID: no walk: one application.) -/
theorem Tryz.strconv_Itoa_small (i : Nat) (hi : i < 100) (w : World) :
    Calls Tryz.prog 238 #[.int .i64 i] w fun e w' => e = .returned (.string ⟨(Lib.decDigits i).toArray⟩) ∧ w' = w := Any.strconv_Itoa_small Tryz.lays171 i hi w
end Go.Proofs

/- Strings joined and numbers printed: what both chapters take of the library. -/
set_option linter.unusedVariables false
set_option linter.unusedSimpArgs false
namespace Go.AL
open Go.Proofs Go.RowKit
variable {Γ : Glob}
attribute [local irreducible] codeW opsW dopsW
def str (s : ByteArray) : AV := .v (.string s)
def strs (l : List ByteArray) : List AV := l.map str
def slStr (l : List ByteArray) : AV := .sl (strs l) l.length
def bSp : ByteArray := ⟨#[32]⟩
def bNl : ByteArray := ⟨#[10]⟩
theorem Ext.below {w w' : World} {σ : Sig} (h : Below w.heap.size w w') : Ext w σ w' σ :=
  ⟨h.size, fun b hb hs => ⟨h.block b hb, hs⟩, fun b _ cs s c hh => ⟨cs, hh⟩, h.os, h.tape, h.output⟩
theorem Rel.below {w w' : World} {σ : Sig} (r : Rel Γ w σ) (h : Below w.heap.size w w') : Rel Γ w' σ := by
  have e : Ext w σ w' σ := .below h
  refine ⟨fun b x hx => ?_, fun g cs hg => ?_⟩
  · obtain ⟨h1, h2⟩ := r.blk b x hx
    exact ⟨Nat.lt_of_lt_of_le h1 h.size, h2.ext e (h.block b h1)⟩
  · obtain ⟨vs, h1, h2⟩ := r.glob g cs hg
    exact ⟨vs, h1.ext e, h2.ext e⟩
/-- A contract of the library, as the walks take it. -/
theorem pcalls_lib {P : Program} {f : FuncId} {args : List AV} {r : AV} (he : ∀ w (vs : Array Value), (callFunc f vs).run P w = .ok (.enter f vs) w)
    (h : ∀ (σ : Sig) (w : World) (vs : List Value), Rel Γ w σ → Reps w σ args vs → Calls P f vs.toArray w fun e w' => ∃ v, e = .returned v ∧ Rep w' σ r v ∧ Below w.heap.size w w') : PCalls P Γ f args r := fun σ =>
  ⟨he, fun w vs rel hv => callsIn_wide.2 ((h σ w vs rel hv).mono fun e w' ⟨v, h1, h2, h3⟩ => ⟨v, r, σ, h1, h2, rel.below h3, .below h3, rfl, rfl⟩)⟩
theorem sl_inv {w : World} {σ : Sig} {cs : List AV} {n : Nat} {v : Value} (h : Rep w σ (.sl cs n) v) : (v = .slice none 0 0 ∧ cs = [] ∧ n = 0) ∨ ∃ vs a cap, v = .slice (some a) n cap ∧ Reps w σ cs vs ∧ RunAt w σ a vs ∧ n ≤ cap := by
  cases h with
  | slnil => exact .inl ⟨rfl, rfl, rfl⟩
  | sl h hr hn => exact .inr ⟨_, _, _, rfl, h, hr, hn⟩
theorem strs_inv {w : World} {σ : Sig} : ∀ {l : List ByteArray} {vs : List Value}, Reps w σ (strs l) vs → vs = l.map Value.string
  | [], _, .nil => rfl
  | x :: l, _, .cons (.v _) h' => by rw [strs_inv (l := l) h']; rfl
theorem spot_none {w : World} {a : Addr} {v : Value} (h : w.cell? a = some v) : a.spot = none := by
  unfold World.cell? at h
  split at h
  · split at h
    · cases h
    · rename_i h'
      simpa using h'
  · cases h
/-- strings.Join's result. -/
def joinP (l : List ByteArray) (sep : ByteArray) : ByteArray := ⟨(Lib.join (l.map (·.data.toList)) sep.data.toList).toArray⟩
theorem f182 (l : List ByteArray) (sep : ByteArray) (hl : Fits l.length) (hlen : (Lib.join (l.map (·.data.toList)) sep.data.toList).length ≤ 140737488355328) : PCalls Tryz.prog Γ 182 [slStr l, str sep] (str (joinP l sep)) := by
  refine pcalls_lib (fun w vs => by kernel_rfl) fun σ w vs rel hv => ?_
  cases hv with | cons h1 hv => cases hv with | cons h2 hv => cases hv with | nil =>
  cases h2
  rcases sl_inv h1 with ⟨rfl, hcs, hn⟩ | ⟨us, a, cap, rfl, hus, hr, hcap⟩
  · have : l = [] := by cases l with | nil => rfl | cons x l => simp at hn
    subst this
    exact (Tryz.strings_Join_none none 0 sep w).mono fun e w' ⟨h1, h2⟩ => ⟨_, h1, .v _, by rw [h2]; exact Below.refl _ _⟩
  · obtain rfl := strs_inv hus
    cases l with
    | nil => exact (Tryz.strings_Join_none (some a) cap sep w).mono fun e w' ⟨h1, h2⟩ => ⟨_, h1, .v _, by rw [h2]; exact Below.refl _ _⟩
    | cons x l =>
      obtain ⟨g1, g2, g3⟩ := hr (by simp)
      have hs : a.spot = none := spot_none (g3 0 (.string x) rfl)
      obtain ⟨bk, o, sp⟩ := a
      simp only at hs
      subst hs
      refine (Tryz.strings_Join bk o cap (x :: l) sep w (fun j y hy => ?_) g1 (by omega) hcap hlen).mono fun e w' ⟨h1, h2⟩ => ⟨_, h1, .v _, h2⟩
      have := g3 j (.string y) (by rw [List.getElem?_map, hy]; rfl)
      rwa [plain_add] at this
theorem strs_one (l : List ByteArray) : (strs l).all AV.one = true := by
  induction l with
  | nil => rfl
  | cons x l ih => rw [strs, List.map_cons, List.all_cons]; exact ih
theorem joinP_size (l : List ByteArray) (sep : ByteArray) (h : (Lib.join (l.map (·.data.toList)) sep.data.toList).length ≤ 140737488355328) : (joinP l sep).size ≤ 140737488355328 := by
  show ((Lib.join (l.map (·.data.toList)) sep.data.toList).toArray).size ≤ _
  simpa using h
theorem gPow : Tryz.prog.globalNamed "internal/strconv.uint64pow10" = some 5 := by kernel_rfl
/-- The table of the powers of ten. -/
def powT : List AV := Lib.pow10Tab.map fun z => .v (.int .u64 z)
theorem ints_u64 {w : World} {σ : Sig} : ∀ {l : List Int} {vs : List Value}, Reps w σ (l.map fun z => AV.v (.int .u64 z)) vs → vs = l.map fun z => Value.int .u64 z
  | [], _, .nil => rfl
  | x :: l, _, .cons (.v _) h' => by rw [ints_u64 (l := l) h']; rfl
def itoaP (n : Int) : ByteArray := ⟨(Lib.itoa n).toArray⟩
/-- strconv.Itoa. -/
theorem f238 (hG : Γ 5 = some powT) (n : Int) (h0 : -9223372036854775808 ≤ n) (h1 : n ≤ 9223372036854775807) : PCalls Tryz.prog Γ 238 [int n] (str (itoaP n)) := by
  refine pcalls_lib (fun w vs => by kernel_rfl) fun σ w vs rel hv => ?_
  cases hv with | cons hx hv => cases hv with | nil =>
  cases hx
  obtain ⟨us, hu, hlt, hσ, el, fz, hh⟩ := rel.glob 5 _ hG
  obtain rfl := ints_u64 hu
  have htab : Lib.TabIs Tryz.prog w "internal/strconv.uint64pow10" .u64 Lib.pow10Tab := by
    simp [Lib.TabIs, World.var?, gPow, hh]
  refine (Tryz.strconv_Itoa n h0 h1 w htab).mono fun e w' ⟨g1, k, os, g2⟩ => ⟨_, g1, .v _, ?_⟩
  rw [g2]
  refine ⟨rfl, rfl, rfl, by simp [Go.Sort.grow], fun j hj => ?_⟩
  simp [Go.Sort.grow, Array.getElem?_append, hj]
end Go.AL

/- strings.Builder: what is written is told byte by byte; its row is told with its type. -/
set_option linter.unusedVariables false
set_option linter.unusedSimpArgs false
namespace Go.AL
open Go.Proofs Go.RowKit
variable {Γ : Glob}
attribute [local irreducible] codeW opsW dopsW
theorem append_growsT {P : Program} {w : World} {t0 t1 ty : TypeId} {k : TK} {bytes : Nat} (hT : AppT P t0 t1 k bytes) {a : Option Addr} {m cap n : Nat} {u : Value} {us old : List Value} (hlen : (Builtin.lenOf u).run P w = .ok n w)
    (hsrc : ∀ d, (Builtin.firstCells k.size n u).run P (atD w d) = .ok us.toArray (atD w d)) (hold : ∀ d, (Builtin.firstCells k.size m (.slice a m cap)).run P (atD w d) = .ok old.toArray (atD w d))
    (hsum : (m + n) * bytes ≤ 140737488355328) (h : cap < m + n) :
    ∃ (d newCap : Nat) (rest : List Value) (el : TypeId), P.underlying t0 = some (.slice el) ∧ m + n ≤ newCap ∧ rest.length = (newCap - (m + n)) * k.size ∧ (Builtin.append_ #[t0, t1] ty #[.slice a m cap, u]).run P w =
      .ok (.slice (some ⟨w.heap.size, 0, none⟩) (m + n) newCap) { atD w d with heap := w.heap.push (.cells (old ++ us ++ rest).toArray el (0, 0)) } := by
  obtain ⟨e, i, h1, h2, h3, h4⟩ := hT.slice
  obtain ⟨d, hd, hnd⟩ := hT.src
  have hz : (match d with | TypeDesc.int _ => true | _ => false) = false := by
    cases d <;> first | rfl | exact absurd rfl (hnd _)
  obtain ⟨z, hzr, hzz⟩ := run_zero_tk h2 w
  have hb0 : ¬ i.bytes = 0 := by have := hT.pos; omega
  have hfit : ¬ (281474976710656 < Builtin.nextslicecap (m + n) cap * i.bytes) := by
    have := growslice_fits (old := cap) (bytes := i.bytes) h (by rw [h4]; exact hsum)
    omega
  have hi : (typeInfo e).run P w = .ok i w := by simp [typeInfo, h3]
  have hid : ∀ d, (typeInfo e).run P (atD w d) = .ok i (atD w d) := fun d => by simp [typeInfo, h3]
  have hzd : ∀ d, (zeroValue e).run P (atD w d) = .ok z (atD w d) := fun d => by
    obtain ⟨i', d', z', hi', _, hz', hk'⟩ := tkOf_some h2
    simp [zeroValue, typeInfo, hi'] at hzr ⊢
    rw [hz'] at hzr ⊢
    simpa using hzr
  let q : Question := .appendCap (m + n) cap e
  refine ⟨w.drawn + 1, q.cut (w.tape w.drawn q), (Builtin.zeroCells z.cells (q.cut (w.tape w.drawn q) - (m + n))).toList, e, h1, by simp [q, Question.cut], ?_, ?_⟩
  · have : z.cells.size = k.size := by
      have := congrArg List.length hzz
      simp at this
      rw [← this, hT.zero]
    simp [zeroCells_size, this]
  · have hn : ¬ m + n ≤ cap := by omega
    have hs := hsrc (w.drawn + 1)
    have ho := hold (w.drawn + 1)
    have hq : q.forced = false := rfl
    simp only [Builtin.append_, Sem.run_bind, run_underlying h1, Result.andThen_ok, run_sizeOf_tk h2, run_underlying hd, Sem.run_pure, hz, Bool.false_eq_true, if_false, hlen, Sem.run_ite, hn, hi, List.getElem?_toArray, List.getElem?_cons_zero, List.getElem?_cons_succ]
    have hid' : (typeInfo e).run P w.drew = .ok i w.drew := hid (w.drawn + 1)
    have hzd' : (zeroValue e).run P w.drew = .ok z w.drew := hzd (w.drawn + 1)
    have hs' : (Builtin.firstCells k.size n u).run P w.drew = .ok us.toArray w.drew := hs
    have ho' : (Builtin.firstCells k.size m (.slice a m cap)).run P w.drew = .ok old.toArray w.drew := ho
    simp [hb0, hfit, hi, hid', hs', ho', hzd', newRow, Question.forced, q]
    have ea : ∀ Z : Array Value, (old ++ (us ++ Z.toList)).toArray = old.toArray ++ (us.toArray ++ Z) := fun Z => by apply Array.ext'; simp
    rw [ea]
    rfl
def byteV (l : List UInt8) : List Value := l.map fun c => .int .u8 c.toNat
/-- A buffer of bytes: nil, or a row whose cells are told. -/
def Buf (σ0 σ : Sig) (v : Value) (l : List UInt8) : Prop :=
  (v = .slice none 0 0 ∧ l = []) ∨ ∃ g cap rest, v = .slice (some ⟨g, 0, none⟩) l.length cap ∧ l ≠ [] ∧ σ0 g = none ∧ σ g = some (.var ((byteV l ++ rest).map .v) 5) ∧ (byteV l ++ rest).length = cap
theorem reps_v {w : World} {σ : Sig} : ∀ {xs us : List Value}, Reps w σ (xs.map .v) us → us = xs
  | [], _, .nil => rfl
  | x :: xs, _, .cons (.v _) h => by rw [reps_v h]
/-- The block of a slice. -/
def blkV : Value → Option Nat
  | .slice (some a) _ _ => some a.block
  | _ => none
theorem us284b : Tryz.prog.underlying 284 = some (.slice 5) := by kernel_rfl
theorem strBytes (s : ByteArray) : (s.data.toList.map fun b => AV.v (.int .u8 b.toNat)) = (byteV s.data.toList).map .v := by rw [byteV, List.map_map]; rfl
theorem appB_bytes {σ0 σ : Sig} {v : Value} {l : List UInt8} {s : ByteArray} {t1 : TypeId} {K : AV → Sig → Prop} (hT : AppT Tryz.prog 284 t1 ⟨false, 1, [.v (.int .u8 0)]⟩ 1) (hd : Drop σ σ0) (hB : Buf σ0 σ v l) (hs : l.length + s.size ≤ 140737488355328)
    (hK : ∀ v' σ', Buf σ0 σ' v' (l ++ s.data.toList) → Drop σ' σ0 → (∀ b, some b ≠ blkV v → σ b ≠ none → σ' b = σ b) → K (.v v') σ') : appB Tryz.prog Γ σ 284 t1 (.v v) (.v (.string s)) K := by
  intro ty w vs r hv
  cases hv with | cons h_s hv => cases hv with | cons h_x hv => cases hv with | nil =>
  cases h_s
  obtain ⟨hl, us, hus, hrep, hul⟩ := src_ok (P := Tryz.prog) r (sz := 1) (x := .v (.string s)) (xs := s.data.toList.map fun b => AV.v (.int .u8 b.toNat)) (m := s.size) ⟨rfl, rfl, rfl⟩ h_x
  have hus2 : us = byteV s.data.toList := by
    rw [strBytes] at hrep
    exact reps_v hrep
  subst hus2
  have hsz : (byteV s.data.toList).length = s.size := by simp [byteV]
  have hsl : s.data.toList.length = s.size := by simp
  rcases hB with ⟨rfl, rfl⟩ | ⟨g, cap, rest, rfl, hne, hg0, hg, hcap⟩
  · by_cases hn : s.size = 0
    · have hs0 : s.data.toList = [] := List.eq_nil_of_length_eq_zero (by omega)
      refine ⟨.slice none 0 0, w, .v (.slice none 0 0), σ, ?_, .v _, r, Ext.refl _ _, hK _ _ (.inl ⟨rfl, by rw [hs0]; rfl⟩) hd (fun _ _ _ => rfl)⟩
      have := append_fits (P := Tryz.prog) (w := w) (w' := w) (ty := ty) hT (a := none) (m := 0) (cap := 0) hl hus (by omega) rfl
      rw [hn] at this
      exact this
    · have hold : ∀ d, (Builtin.firstCells 1 0 (.slice none 0 0)).run Tryz.prog (atD w d) = .ok ([] : List Value).toArray (atD w d) := fun d => by simp [Builtin.firstCells]
      obtain ⟨d, newCap, rest, el, h0, h2, h3, h4⟩ := append_growsT (P := Tryz.prog) (w := w) (t0 := 284) (t1 := t1) (ty := ty) hT (m := 0) (cap := 0) hl hus hold (by simpa using hs) (by omega)
      obtain rfl : el = 5 := by rw [us284b] at h0; cases h0; rfl
      have rD : Rel Γ (atD w d) σ := r.of_heap rfl rfl rfl rfl
      have eD : Ext w σ (atD w d) σ := Ext.of_heap rfl rfl rfl rfl
      have eA := Ext.alloc (w := atD w d) (σ := σ) (.cells ([] ++ byteV s.data.toList ++ rest).toArray 5 (0, 0)) (.var (([] ++ byteV s.data.toList ++ rest).map .v) 5) rD.fresh
      have rA := rD.alloc (.cells ([] ++ byteV s.data.toList ++ rest).toArray 5 (0, 0)) (.var (([] ++ byteV s.data.toList ++ rest).map .v) 5) ⟨_, by simp, Reps.vs _⟩
      have hfr : σ0 w.heap.size = none := hd.free r.fresh
      refine ⟨_, _, _, _, h4, .v _, rA, eD.trans eA, hK _ _ (.inr ⟨w.heap.size, newCap, rest, ?_, ?_, hfr, ?_, ?_⟩) (hd.upd hfr) (fun b _ hb => ?_)⟩
      · rw [List.nil_append, hsl, Nat.zero_add]
      · rw [List.nil_append]; intro e; rw [e] at hsl; simp at hsl; omega
      · rw [List.nil_append]; exact upd_same _ _ _
      · simp only [List.nil_append, List.length_append, hsz, h3]; omega
      · exact upd_ne _ _ _ _ (fun e => by subst e; exact hb r.fresh)
  · obtain ⟨hgl, hgh⟩ := r.blk g _ hg
    obtain ⟨us, hgh, hru⟩ := hgh
    obtain rfl := reps_v hru
    have hbl : (byteV l).length = l.length := by simp [byteV]
    rw [List.length_append, hbl] at hcap
    by_cases hfit : l.length + s.size ≤ cap
    · have hst := run_storeCells_at Tryz.prog g l.length 5 (byteV s.data.toList) 0 (byteV l ++ rest).toArray w hgh (by simp [byteV]; omega) (fun v hv => by
        obtain ⟨c, _, rfl⟩ := List.mem_map.1 hv; rfl)
      simp only [Nat.add_zero] at hst
      have hcells : ((byteV l ++ rest).take l.length ++ byteV s.data.toList ++ (byteV l ++ rest).drop (l.length + (byteV s.data.toList).length)) = byteV (l ++ s.data.toList) ++ rest.drop s.size := by
        rw [hsz, List.take_append_of_le_length (by omega), List.take_of_length_le (by omega), List.drop_append, hbl]
        have : (byteV l).drop (l.length + s.size) = [] := List.drop_eq_nil_of_le (by omega)
        rw [this]
        simp [byteV, Nat.add_sub_cancel_left]
      have hst' : (storeCells ((⟨g, 0, none⟩ : Addr).add (l.length * 1)) (byteV s.data.toList)).run Tryz.prog w = .ok () (w.setRow g (byteV (l ++ s.data.toList) ++ rest.drop s.size).toArray) := by
        rw [plain_add, Nat.zero_add, Nat.mul_one, ← hcells]
        simpa using hst
      have hWr : Wr w (w.setRow g (byteV (l ++ s.data.toList) ++ rest.drop s.size).toArray) g := ⟨size_setRow _ _ _, fun j hj => setRow_other w g j _ hj, rfl, rfl, rfl⟩
      have hx : ∃ y, σ g = some y ∧ ∀ cs s' c, Blk.var ((byteV (l ++ s.data.toList) ++ rest.drop s.size).map .v) 5 = .row cs s' c → ∃ cs', y = .row cs' s' c := ⟨_, hg, fun _ _ _ e => by cases e⟩
      have eW := Ext.write (σ := σ) (x := .var ((byteV (l ++ s.data.toList) ++ rest.drop s.size).map .v) 5) hWr hx
      have rW := r.write (x := .var ((byteV (l ++ s.data.toList) ++ rest.drop s.size).map .v) 5) hWr hx ⟨_, setRow_heap w g _ _ _ _ hgh, Reps.vs _⟩
      refine ⟨_, _, _, _, append_fits (P := Tryz.prog) (w := w) (ty := ty) hT hl hus hfit hst', .v _, rW, eW, hK _ _ (.inr ⟨g, cap, rest.drop s.size, by rw [List.length_append, hsl], by simp [hne], hg0, upd_same _ _ _, ?_⟩) (hd.upd hg0) (fun b hb _ => upd_ne _ _ _ _ (fun e => hb (by rw [e]; rfl)))⟩
      simp [byteV]
      omega
    · have hold : ∀ d, (Builtin.firstCells 1 l.length (.slice (some ⟨g, 0, none⟩) l.length cap)).run Tryz.prog (atD w d) = .ok (byteV l).toArray (atD w d) := fun d => by
        have hgd : (atD w d).heap[g]? = some (.cells (byteV l ++ rest).toArray 5 (0, 0)) := hgh
        have := run_loadCells_list (P := Tryz.prog) (atD w d) ⟨g, 0, none⟩ (byteV l) (fun j v hj => by
          have h := cells_of_row (w := w) hgh 0 l.length (by omega) j v (by simpa [hbl] using (by rw [List.take_of_length_le (by omega)]; exact hj : ((byteV l).take l.length)[j]? = some v))
          exact h)
        rw [hbl] at this
        simp only [Builtin.firstCells, Nat.mul_one, this]
      obtain ⟨d, newCap, rest2, el, h0, h2, h3, h4⟩ := append_growsT (P := Tryz.prog) (w := w) (t0 := 284) (t1 := t1) (ty := ty) hT hl hus hold (by simpa using hs) (by omega)
      obtain rfl : el = 5 := by rw [us284b] at h0; cases h0; rfl
      have rD : Rel Γ (atD w d) σ := r.of_heap rfl rfl rfl rfl
      have eD : Ext w σ (atD w d) σ := Ext.of_heap rfl rfl rfl rfl
      have eA := Ext.alloc (w := atD w d) (σ := σ) (.cells (byteV l ++ byteV s.data.toList ++ rest2).toArray 5 (0, 0)) (.var ((byteV l ++ byteV s.data.toList ++ rest2).map .v) 5) rD.fresh
      have rA := rD.alloc (.cells (byteV l ++ byteV s.data.toList ++ rest2).toArray 5 (0, 0)) (.var ((byteV l ++ byteV s.data.toList ++ rest2).map .v) 5) ⟨_, by simp, Reps.vs _⟩
      have hfr : σ0 w.heap.size = none := hd.free r.fresh
      have happ : byteV (l ++ s.data.toList) = byteV l ++ byteV s.data.toList := by simp [byteV]
      refine ⟨_, _, _, _, h4, .v _, rA, eD.trans eA, hK _ _ (.inr ⟨w.heap.size, newCap, rest2, by rw [List.length_append, hsl], by simp [hne], hfr, by rw [happ]; exact upd_same _ _ _, ?_⟩) (hd.upd hfr) (fun b _ hb => upd_ne _ _ _ _ (fun e => by subst e; exact hb r.fresh))⟩
      rw [happ]
      simp only [List.length_append, hbl, hsz, h3]
      omega
theorem strB_bytes {σ : Sig} {g : Nat} {l : List UInt8} {rest : List Value} {K : AV → Sig → Prop} (hg : σ g = some (.var ((byteV l ++ rest).map .v) 5)) (hne : l ≠ []) (hlen : l.length ≤ 140737488355328) (hK : K (.v (.string ⟨l.toArray⟩)) (ers σ g)) :
    strB Tryz.prog Γ σ #[338, 3] (.v (.pointer (some ⟨g, 0, none⟩))) (.v (.int .i64 l.length)) K := by
  intro ty w vs r hv
  cases hv with | cons h_s hv => cases hv with | cons h_x hv => cases hv with | nil =>
  cases h_s
  cases h_x
  obtain ⟨hgl, hgh⟩ := r.blk g _ hg
  obtain ⟨us, hgh, hru⟩ := hgh
  obtain rfl := reps_v hru
  have hl0 : l.length ≠ 0 := by simpa using hne
  have hbl : (byteV l).length = l.length := by simp [byteV]
  have hrun := Lib.run_unsafeString_row (P := Tryz.prog) w 338 3 ty 5 (by kernel_rfl) (by kernel_rfl) g (byteV l ++ rest).length (by simp [World.shape?, hgh]) l hne (by simp [byteV]) (by omega) (fun j x hx => by
    rw [plain_add, Nat.zero_add, cell?_row hgh, List.getElem?_append_left (by rw [hbl]; exact (List.getElem?_eq_some_iff.1 hx).1)]
    simp [byteV, hx])
  have hWr : Wr w (w.freeze ⟨g, 0, none⟩ l.length) g := by
    unfold World.freeze
    rw [if_neg hl0]
    exact Wr.modify w g _
  have eW : Ext w σ (w.freeze ⟨g, 0, none⟩ l.length) (ers σ g) := by
    refine ⟨Nat.le_of_eq hWr.size.symm, fun b hb hs => ?_, fun b hb cs s c h => ?_, hWr.os, hWr.tape, hWr.output⟩
    · have hne : b ≠ g := fun e => by rw [e, hg] at hs; cases hs
      exact ⟨hWr.other b hne, by rw [ers_ne _ _ _ hne]; exact hs⟩
    · by_cases hbg : b = g
      · subst hbg; rw [ers_same] at h; cases h
      · rw [ers_ne _ _ _ hbg] at h; exact ⟨cs, h⟩
  refine ⟨_, _, .v (.string ⟨l.toArray⟩), ers σ g, hrun, .v _, ⟨fun b x hb => ?_, fun g' cs hg' => ?_⟩, eW, hK⟩
  · by_cases hbg : b = g
    · subst hbg; rw [ers_same] at hb; cases hb
    · rw [ers_ne _ _ _ hbg] at hb
      obtain ⟨h1, h2⟩ := r.blk b x hb
      exact ⟨Nat.lt_of_lt_of_le h1 eW.size, h2.ext eW (hWr.other b hbg)⟩
  · obtain ⟨us, h1, h2⟩ := r.glob g' cs hg'
    exact ⟨us, h1.ext eW, h2.ext eW⟩
/-- The builder's own check, at its first use. -/
theorem f243_fresh {σ : Sig} {b : Nat} {v : Value} {K : AV → Sig → Prop} (hb : σ b = some (.var [.v (.pointer none), .v v] 286)) (hK : K (.v (.tuple #[])) (upd σ b (some (.var [.v (.pointer (some ⟨b, 0, none⟩)), .v v] 286)))) : ACalls Tryz.prog Γ 243 [.v (.pointer (some ⟨b, 0, none⟩))] σ K := by
  refine ⟨fun w vs => by kernel_rfl, fun w vs r hv => callsIn_wide.2 ?_⟩
  cases hv with | cons h_s hv => cases hv with | nil =>
  cases h_s
  obtain ⟨hbl, us, hbh, hrep⟩ := r.blk b _ hb
  cases hrep with | cons g1 hrep => cases hrep with | cons g2 hrep => cases hrep with | nil =>
  cases g1
  cases g2
  refine (Any.Builder_copyCheck_fresh (P := Tryz.prog) { Tryz.lays156 with } Tryz.Builder_Extra_156.toX72 b w (by simp [World.cell?, hbh]) (by simp [World.shape?, hbh]; rfl) (by simp [World.frozen?, hbh])).mono fun e w' ⟨h1, h2⟩ => ?_
  subst h2
  have hWr : Wr w (w.setCell ⟨b, 0, none⟩ (.pointer (some ⟨b, 0, none⟩))) b := Wr.modify w b _
  have hx : ∃ y, σ b = some y ∧ ∀ cs s' c, Blk.var [.v (.pointer (some ⟨b, 0, none⟩)), .v v] 286 = .row cs s' c → ∃ cs', y = .row cs' s' c := ⟨_, hb, fun _ _ _ e => by cases e⟩
  refine ⟨_, _, _, h1, .v _, r.write (x := .var [.v (.pointer (some ⟨b, 0, none⟩)), .v v] 286) hWr hx ⟨[.pointer (some ⟨b, 0, none⟩), v], ?_, .cons (.v _) (.cons (.v _) .nil)⟩, Ext.write hWr hx, hK⟩
  simp [World.setCell, Array.getElem?_modify, hbh]
theorem f243_used {σ : Sig} {b : Nat} {a : AV} {K : AV → Sig → Prop} (hb : σ b = some (.var [.v (.pointer (some ⟨b, 0, none⟩)), a] 286)) (hK : K (.v (.tuple #[])) σ) : ACalls Tryz.prog Γ 243 [.v (.pointer (some ⟨b, 0, none⟩))] σ K := by
  refine ⟨fun w vs => by kernel_rfl, fun w vs r hv => callsIn_wide.2 ?_⟩
  cases hv with | cons h_s hv => cases hv with | nil =>
  cases h_s
  obtain ⟨hbl, us, hbh, hrep⟩ := r.blk b _ hb
  cases hrep with | cons g1 hrep =>
  cases g1
  refine (Any.Builder_copyCheck_used (P := Tryz.prog) { Tryz.lays156 with } Tryz.Builder_Extra_156.toX72 b w (by simp [World.cell?, hbh])).mono fun e w' ⟨h1, h2⟩ => ?_
  subst h2
  exact ⟨_, _, _, h1, .v _, r, Ext.refl _ _, hK⟩
/-- A builder that holds these bytes. -/
structure Bld (σ0 σ : Sig) (b : Nat) (v : Value) (l : List UInt8) : Prop where
  own : σ0 b = none
  var : ∃ p, σ b = some (.var [.v (.pointer p), .v v] 286) ∧ (p = none ∨ p = some ⟨b, 0, none⟩)
  buf : Buf σ0 σ v l
  drop : Drop σ σ0
theorem Buf.keep {σ0 σ σ' : Sig} {v : Value} {l : List UInt8} (h : Buf σ0 σ v l) (hk : ∀ g, blkV v = some g → σ' g = σ g) : Buf σ0 σ' v l := by
  rcases h with h | ⟨g, cap, rest, rfl, h1, h2, h3, h4⟩
  · exact .inl h
  · exact .inr ⟨g, cap, rest, rfl, h1, h2, by rw [hk g rfl]; exact h3, h4⟩
theorem Buf.ne {σ0 σ : Sig} {v : Value} {l : List UInt8} (h : Buf σ0 σ v l) {b : Nat} {x : Blk} (hb : σ b = some x) (hx : ∀ cs, x ≠ .var cs 5) : blkV v ≠ some b := fun e => by
  rcases h with ⟨rfl, _⟩ | ⟨g, cap, rest, rfl, h1, h2, h3, h4⟩
  · cases e
  · cases e
    rw [hb] at h3
    cases h3
    exact hx _ rfl
theorem tk5b : tkOf Tryz.prog 5 = some ⟨false, 1, [.v (.int .u8 0)]⟩ := by kernel_rfl
theorem appT284 : AppT Tryz.prog 284 9 ⟨false, 1, [.v (.int .u8 0)]⟩ 1 := by
  obtain ⟨i, d, z, hi, hd, hz, hk⟩ := tkOf_some tk5b
  refine ⟨⟨5, i, us284b, tk5b, hi, ?_⟩, ⟨_, us9, by simp⟩, by decide, rfl, by decide⟩
  have : Tryz.prog.bytesOf 5 = 1 := by kernel_rfl
  rw [← this]
  simp [Program.bytesOf, hi]
theorem f191 {σ0 σ : Sig} {b : Nat} {v : Value} {l : List UInt8} (s : ByteArray) (hB : Bld σ0 σ b v l) (hs : l.length + s.size ≤ 140737488355328) {K : AV → Sig → Prop}
    (hK : ∀ v' σ', Bld σ0 σ' b v' (l ++ s.data.toList) → (∀ x, x ≠ b → some x ≠ blkV v → σ x ≠ none → σ' x = σ x) → K (.tup [int s.size, .v .nilIface]) σ') : ACalls Tryz.prog Γ 191 [.v (.pointer (some ⟨b, 0, none⟩)), .v (.string s)] σ K := by
  obtain ⟨hown, ⟨p, hb, hp⟩, hbuf, hD⟩ := hB
  refine acalls (ok191 Γ) ?_
  simp only [go_sem, xQ, ↓reduceIte, xA, xM, xL, xT, xE, xN, xP, xR, xS, Tryz.f191]
  rcases hp with rfl | rfl
  · refine callB_a (f243_fresh hb ?_) rfl
    have hb1 : upd σ b (some (.var [.v (.pointer (some ⟨b, 0, none⟩)), .v v] 286)) b = some (.var [.v (.pointer (some ⟨b, 0, none⟩)), .v v] 286) := upd_same _ _ _
    have hbuf1 : Buf σ0 (upd σ b (some (.var [.v (.pointer (some ⟨b, 0, none⟩)), .v v] 286))) v l := hbuf.keep fun g hg => upd_ne _ _ _ _ (fun e => hbuf.ne hb (fun cs h => by cases h) (by rw [hg, e]))
    have hD1 : Drop (upd σ b (some (.var [.v (.pointer (some ⟨b, 0, none⟩)), .v v] 286))) σ0 := hD.upd hown
    simp only [go_sem, xQ, ↓reduceIte, xA, xM, xL, xT, xE, xN, xP, xR, xS, hb1]
    refine appB_bytes (σ0 := σ0) appT284 hD1 hbuf1 hs (fun v' σ2 hbuf2 hD2 hO => ?_)
    have hb2 : σ2 b = some (.var [.v (.pointer (some ⟨b, 0, none⟩)), .v v] 286) := by rw [hO b (fun e => hbuf.ne hb (fun cs h => by cases h) e.symm) (by simp [upd, hb])]; exact hb1
    have hone : (AV.v v').one = true ∧ (AV.v v').cells? = some [.v v'] := by
      rcases hbuf2 with ⟨rfl, _⟩ | ⟨g, cap, rest, rfl, _⟩ <;> exact ⟨rfl, rfl⟩
    simp only [go_sem, xQ, ↓reduceIte, xA, xM, xL, xT, xE, xN, xP, xR, xS, hb2, hone.1, hone.2]
    have hb3 : (fun x => σ2 x) b = σ2 b := rfl
    refine hK v' _ ⟨hown, ⟨_, upd_same _ _ _, .inr rfl⟩, hbuf2.keep fun g hg => upd_ne _ _ _ _ (fun e => hbuf2.ne hb2 (fun cs h => by cases h) (by rw [hg, e])), hD2.upd hown⟩ (fun x hxb hxv hx => ?_)
    rw [upd_ne _ _ _ _ hxb, hO x hxv (by rw [upd_ne _ _ _ _ hxb]; exact hx)]
    try exact upd_ne _ _ _ _ hxb
  · refine callB_a (f243_used hb ?_) rfl
    simp only [go_sem, xQ, ↓reduceIte, xA, xM, xL, xT, xE, xN, xP, xR, xS, hb]
    refine appB_bytes (σ0 := σ0) appT284 hD hbuf hs (fun v' σ2 hbuf2 hD2 hO => ?_)
    have hb2 : σ2 b = some (.var [.v (.pointer (some ⟨b, 0, none⟩)), .v v] 286) := by rw [hO b (fun e => hbuf.ne hb (fun cs h => by cases h) e.symm) (by simp [upd, hb])]; exact hb
    have hone : (AV.v v').one = true ∧ (AV.v v').cells? = some [.v v'] := by
      rcases hbuf2 with ⟨rfl, _⟩ | ⟨g, cap, rest, rfl, _⟩ <;> exact ⟨rfl, rfl⟩
    simp only [go_sem, xQ, ↓reduceIte, xA, xM, xL, xT, xE, xN, xP, xR, xS, hb2, hone.1, hone.2]
    have hb3 : (fun x => σ2 x) b = σ2 b := rfl
    refine hK v' _ ⟨hown, ⟨_, upd_same _ _ _, .inr rfl⟩, hbuf2.keep fun g hg => upd_ne _ _ _ _ (fun e => hbuf2.ne hb2 (fun cs h => by cases h) (by rw [hg, e])), hD2.upd hown⟩ (fun x hxb hxv hx => ?_)
    rw [upd_ne _ _ _ _ hxb, hO x hxv hx]
    try exact upd_ne _ _ _ _ hxb
theorem f194 {σ0 σ : Sig} {b : Nat} {v : Value} {l : List UInt8} (hB : Bld σ0 σ b v l) (hne : l ≠ []) (hlen : l.length ≤ 140737488355328) {K : AV → Sig → Prop} (hK : ∀ σ', Drop σ' σ0 → (∀ x, some x ≠ blkV v → σ' x = σ x) → K (.v (.string ⟨l.toArray⟩)) σ') : ACalls Tryz.prog Γ 194 [.v (.pointer (some ⟨b, 0, none⟩))] σ K := by
  obtain ⟨hown, ⟨p, hb, hp⟩, hbuf, hD⟩ := hB
  rcases hbuf with ⟨_, h⟩ | ⟨g, cap, rest, rfl, h1, h2, h3, h4⟩
  · exact absurd h hne
  · have hc0 : ¬ cap = 0 := by
      intro e
      rw [e, List.length_append] at h4
      have := List.length_pos_iff.2 hne
      have : (byteV l).length = l.length := by simp [byteV]
      omega
    refine acalls (ok194 Γ) ?_
    simp only [go_sem, xQ, ↓reduceIte, xA, xM, xL, xT, xE, xN, xP, xR, xS, Tryz.f194, hb, hc0]
    refine strB_bytes h3 hne hlen ?_
    simp only [go_sem, xQ, ↓reduceIte, xA, xM, xL, xT, xE, xN, xP, xR, xS]
    exact hK _ (hD.ersX h2) (fun x hx => ers_ne _ _ _ (fun e => hx (by rw [e]; rfl)))
end Go.AL
