import Derived.Test.YtjimmpldofoimaaGreatDoorV1
import Derived.Shelf.Strings.OnBuilder
import Derived.Shelf.LaysM
import Derived.Shelf.Strconv.Itoa3
import Derived.Test.YtjimmpldofoimaaGreatDoorProg
namespace Go.Proofs
open Go.Shelf
def Tryz.lays156_ren : Go.Shelf.Ren := ⟨fun | 156 => 182 | 165 => 236 | 166 => 191 | 169 => 194 | 240 => 243 | 241 => 261 | 276 => 265 | 277 => 275 | n => n, fun | 31 => 267 | 9 => 9 | 3 => 3 | 4 => 4 | 0 => 0 | 20 => 20 | 72 => 286 | 76 => 290 | 70 => 283 | 37 => 284 | 75 => 289 | 127 => 338 | 164 => 353 | 5 => 5 | 80 => 270 | n => n, fun | n => n⟩
theorem Tryz.lays156 : Go.Proofs.Lays.n156 Tryz.prog Tryz.lays156_ren := {
 mixed := by kernel_rfl
 f156 := Tryz.func182.trans (congrArg some (by kernel_rfl))
 f165 := Tryz.func236.trans (congrArg some (by kernel_rfl))
 f166 := Tryz.func191.trans (congrArg some (by kernel_rfl))
 f169 := Tryz.func194.trans (congrArg some (by kernel_rfl))
 f240 := Tryz.func243.trans (congrArg some (by kernel_rfl))
 f241 := Tryz.func261.trans (congrArg some (by kernel_rfl))
 f276 := Tryz.func265.trans (congrArg some (by kernel_rfl))
 f277 := Tryz.func275.trans (congrArg some (by kernel_rfl))
 t0 := Tryz.underlying0
 a0 := Tryz.isAgg0
 z0 := Tryz.sizeOf0
 v0 := Tryz.zeroValue0
 t3 := Tryz.underlying3
 a3 := Tryz.isAgg3
 z3 := Tryz.sizeOf3
 v3 := Tryz.zeroValue3
 t4 := Tryz.underlying4
 a4 := Tryz.isAgg4
 z4 := Tryz.sizeOf4
 v4 := Tryz.zeroValue4
 t9 := Tryz.underlying9
 a9 := Tryz.isAgg9
 z9 := Tryz.sizeOf9
 v9 := Tryz.zeroValue9
 t20 := Tryz.underlying20
 a20 := Tryz.isAgg20
 z20 := Tryz.sizeOf20
 v20 := Tryz.zeroValue20
 t31 := Tryz.underlying267
 a31 := Tryz.isAgg267
 z31 := Tryz.sizeOf267
 v31 := Tryz.zeroValue267
 t37 := Tryz.underlying284
 a37 := Tryz.isAgg284
 z37 := Tryz.sizeOf284
 v37 := Tryz.zeroValue284
 t70 := Tryz.underlying283
 a70 := Tryz.isAgg283
 z70 := Tryz.sizeOf283
 v70 := Tryz.zeroValue283
 t72 := Tryz.underlying286
 a72 := Tryz.isAgg286
 z72 := Tryz.sizeOf286
 v72 := Tryz.zeroValue286
 t75 := Tryz.underlying289
 a75 := Tryz.isAgg289
 z75 := Tryz.sizeOf289
 v75 := Tryz.zeroValue289
 t76 := Tryz.underlying290
 a76 := Tryz.isAgg290
 z76 := Tryz.sizeOf290
 v76 := Tryz.zeroValue290
 t127 := Tryz.underlying338
 a127 := Tryz.isAgg338
 z127 := Tryz.sizeOf338
 v127 := Tryz.zeroValue338
 t164 := Tryz.underlying353
 a164 := Tryz.isAgg353
 z164 := Tryz.sizeOf353
 v164 := Tryz.zeroValue353 }
theorem Tryz.Builder_Extra_156 : Builder.Extra Tryz.prog Tryz.lays156_ren := {
 sizeBuilder := by kernel_rfl
 liesBuilder := by kernel_rfl
 t5 := Tryz.underlying5
 a5 := Tryz.isAgg5
 z5 := Tryz.sizeOf5
 v5 := Tryz.zeroValue5
 infoByte := by kernel_rfl
 cellsByte := by kernel_rfl
 sizeByte := by kernel_rfl
 neB5 := by decide }
open Go.RowKit in
theorem Tryz.strings_Join_none (a : Option Addr) (c : Nat) (sep : ByteArray) (w : World) :
  Calls Tryz.prog 182 #[.slice a 0 c, .string sep] w fun e w' => e = .returned (.string ⟨#[]⟩) ∧ w' = w := Any.strings_Join_none Tryz.lays156 Tryz.Builder_Extra_156 a c sep w
open Go.RowKit in
theorem Tryz.strings_Join (bk o c : Nat) (xs : List ByteArray) (sep : ByteArray) (w : World) (hcells : ∀ (j : Nat) x, xs[j]? = some x → w.cell? ⟨bk, o + j, none⟩ = some (.string x)) (hbk : bk < w.heap.size) (hN : xs.length ≤ 140737488355328) (hcap : xs.length ≤ c) (hlen : (Lib.join (xs.map (·.data.toList)) sep.data.toList).length ≤ 140737488355328) :
  Calls Tryz.prog 182 #[.slice (some ⟨bk, o, none⟩) xs.length c, .string sep] w fun e w' => e = .returned (.string ⟨(Lib.join (xs.map (·.data.toList)) sep.data.toList).toArray⟩) ∧ Below w.heap.size w w' := Any.strings_Join Tryz.lays156 Tryz.Builder_Extra_156 bk o c xs sep w hcells hbk hN hcap hlen
def Tryz.laysM171_ren : Go.Shelf.Ren := ⟨fun | 171 => 238 | 243 => 262 | 246 => 276 | 283 => 283 | 284 => 284 | 285 => 285 | 286 => 286 | 129 => 293 | 317 => 292 | 318 => 294 | 319 => 295 | 320 => 296 | 337 => 298 | 338 => 299 | n => n, fun | 3 => 3 | 9 => 9 | 2 => 2 | 4 => 4 | 171 => 367 | 0 => 0 | 53 => 368 | 37 => 284 | 5 => 5 | 173 => 371 | 212 => 375 | 51 => 376 | 20 => 20 | 213 => 377 | 46 => 373 | 232 => 386 | 233 => 387 | n => n, fun | 17 => 5 | 18 => 8 | 19 => 9 | n => n⟩
theorem Tryz.laysM171 : Go.Proofs.LaysM.n171 Tryz.prog Tryz.laysM171_ren := {
 mixed := by kernel_rfl
 f129 := Tryz.func293.trans (congrArg some (by kernel_rfl))
 f171 := Tryz.func238.trans (congrArg some (by kernel_rfl))
 f243 := Tryz.func262.trans (congrArg some (by kernel_rfl))
 f246 := Tryz.func276.trans (congrArg some (by kernel_rfl))
 f283 := Tryz.func283.trans (congrArg some (by kernel_rfl))
 f284 := Tryz.func284.trans (congrArg some (by kernel_rfl))
 f285 := Tryz.func285.trans (congrArg some (by kernel_rfl))
 f286 := Tryz.func286.trans (congrArg some (by kernel_rfl))
 f317 := Tryz.func292.trans (congrArg some (by kernel_rfl))
 f318 := Tryz.func294.trans (congrArg some (by kernel_rfl))
 f319 := Tryz.func295.trans (congrArg some (by kernel_rfl))
 f320 := Tryz.func296.trans (congrArg some (by kernel_rfl))
 f337 := Tryz.func298.trans (congrArg some (by kernel_rfl))
 f338 := Tryz.func299.trans (congrArg some (by kernel_rfl))
 t0 := Tryz.underlying0
 a0 := Tryz.isAgg0
 z0 := Tryz.sizeOf0
 v0 := Tryz.zeroValue0
 t2 := Tryz.underlying2
 a2 := Tryz.isAgg2
 z2 := Tryz.sizeOf2
 v2 := Tryz.zeroValue2
 t3 := Tryz.underlying3
 a3 := Tryz.isAgg3
 z3 := Tryz.sizeOf3
 v3 := Tryz.zeroValue3
 t4 := Tryz.underlying4
 a4 := Tryz.isAgg4
 z4 := Tryz.sizeOf4
 v4 := Tryz.zeroValue4
 t5 := Tryz.underlying5
 a5 := Tryz.isAgg5
 z5 := Tryz.sizeOf5
 v5 := Tryz.zeroValue5
 t9 := Tryz.underlying9
 a9 := Tryz.isAgg9
 z9 := Tryz.sizeOf9
 v9 := Tryz.zeroValue9
 t20 := Tryz.underlying20
 a20 := Tryz.isAgg20
 z20 := Tryz.sizeOf20
 v20 := Tryz.zeroValue20
 t37 := Tryz.underlying284
 a37 := Tryz.isAgg284
 z37 := Tryz.sizeOf284
 v37 := Tryz.zeroValue284
 t46 := Tryz.underlying373
 a46 := Tryz.isAgg373
 z46 := Tryz.sizeOf373
 v46 := Tryz.zeroValue373
 t51 := Tryz.underlying376
 a51 := Tryz.isAgg376
 z51 := Tryz.sizeOf376
 v51 := Tryz.zeroValue376
 t53 := Tryz.underlying368
 a53 := Tryz.isAgg368
 z53 := Tryz.sizeOf368
 v53 := Tryz.zeroValue368
 t171 := Tryz.underlying367
 a171 := Tryz.isAgg367
 z171 := Tryz.sizeOf367
 v171 := Tryz.zeroValue367
 t173 := Tryz.underlying371
 a173 := Tryz.isAgg371
 z173 := Tryz.sizeOf371
 v173 := Tryz.zeroValue371
 t212 := Tryz.underlying375
 a212 := Tryz.isAgg375
 z212 := Tryz.sizeOf375
 v212 := Tryz.zeroValue375
 t213 := Tryz.underlying377
 a213 := Tryz.isAgg377
 z213 := Tryz.sizeOf377
 t232 := Tryz.underlying386
 a232 := Tryz.isAgg386
 z232 := Tryz.sizeOf386
 v232 := Tryz.zeroValue386
 t233 := Tryz.underlying387
 a233 := Tryz.isAgg387
 z233 := Tryz.sizeOf387
 v233 := Tryz.zeroValue387
 g17 := by kernel_rfl
 g18 := by kernel_rfl
 g19 := by kernel_rfl
 i0 := by kernel_rfl
 i2 := by kernel_rfl
 i3 := by kernel_rfl
 i4 := by kernel_rfl
 i5 := by kernel_rfl
 i9 := by kernel_rfl
 i20 := by kernel_rfl
 i37 := by kernel_rfl
 i46 := by kernel_rfl
 i51 := by kernel_rfl
 i53 := by kernel_rfl
 i171 := by kernel_rfl
 i173 := by kernel_rfl
 i212 := by kernel_rfl
 i232 := by kernel_rfl
 i233 := by kernel_rfl
 m17 := by kernel_rfl
 m18 := by kernel_rfl
 m19 := by kernel_rfl }
open Go.RowKit Go.Sort Go.Lib in
theorem Tryz.strconv_Itoa (n : Int) (h0 : -9223372036854775808 ≤ n) (h1 : n ≤ 9223372036854775807) (w : World) (htab : Lib.TabIs Tryz.prog w "internal/strconv.uint64pow10" .u64 Lib.pow10Tab) :
  Calls Tryz.prog 238 #[.int .i64 n] w fun e w' => e = .returned (.string ⟨(Lib.itoa n).toArray⟩) ∧ ∃ k os, w' = grow (w.drewN k) os := Any.strconv_Itoa Tryz.laysM171 n h0 h1 w htab
def Tryz.lays171_ren : Go.Shelf.Ren := ⟨fun | 171 => 238 | 243 => 262 | 246 => 276 | 283 => 283 | 284 => 284 | 285 => 285 | 286 => 286 | 129 => 293 | 317 => 292 | 318 => 294 | 319 => 295 | 320 => 296 | 337 => 298 | 338 => 299 | n => n, fun | 3 => 3 | 9 => 9 | 2 => 2 | 4 => 4 | 171 => 367 | 0 => 0 | 53 => 368 | 37 => 284 | 5 => 5 | 173 => 371 | 212 => 375 | 51 => 376 | 20 => 20 | 213 => 377 | 46 => 373 | 232 => 386 | 233 => 387 | n => n, fun | 17 => 5 | 18 => 8 | 19 => 9 | n => n⟩
theorem Tryz.lays171 : Go.Proofs.Lays.n171 Tryz.prog Tryz.lays171_ren := {
 mixed := by kernel_rfl
 f129 := Tryz.func293.trans (congrArg some (by kernel_rfl))
 f171 := Tryz.func238.trans (congrArg some (by kernel_rfl))
 f243 := Tryz.func262.trans (congrArg some (by kernel_rfl))
 f246 := Tryz.func276.trans (congrArg some (by kernel_rfl))
 f283 := Tryz.func283.trans (congrArg some (by kernel_rfl))
 f284 := Tryz.func284.trans (congrArg some (by kernel_rfl))
 f285 := Tryz.func285.trans (congrArg some (by kernel_rfl))
 f286 := Tryz.func286.trans (congrArg some (by kernel_rfl))
 f317 := Tryz.func292.trans (congrArg some (by kernel_rfl))
 f318 := Tryz.func294.trans (congrArg some (by kernel_rfl))
 f319 := Tryz.func295.trans (congrArg some (by kernel_rfl))
 f320 := Tryz.func296.trans (congrArg some (by kernel_rfl))
 f337 := Tryz.func298.trans (congrArg some (by kernel_rfl))
 f338 := Tryz.func299.trans (congrArg some (by kernel_rfl))
 t0 := Tryz.underlying0
 a0 := Tryz.isAgg0
 z0 := Tryz.sizeOf0
 v0 := Tryz.zeroValue0
 t2 := Tryz.underlying2
 a2 := Tryz.isAgg2
 z2 := Tryz.sizeOf2
 v2 := Tryz.zeroValue2
 t3 := Tryz.underlying3
 a3 := Tryz.isAgg3
 z3 := Tryz.sizeOf3
 v3 := Tryz.zeroValue3
 t4 := Tryz.underlying4
 a4 := Tryz.isAgg4
 z4 := Tryz.sizeOf4
 v4 := Tryz.zeroValue4
 t5 := Tryz.underlying5
 a5 := Tryz.isAgg5
 z5 := Tryz.sizeOf5
 v5 := Tryz.zeroValue5
 t9 := Tryz.underlying9
 a9 := Tryz.isAgg9
 z9 := Tryz.sizeOf9
 v9 := Tryz.zeroValue9
 t20 := Tryz.underlying20
 a20 := Tryz.isAgg20
 z20 := Tryz.sizeOf20
 v20 := Tryz.zeroValue20
 t37 := Tryz.underlying284
 a37 := Tryz.isAgg284
 z37 := Tryz.sizeOf284
 v37 := Tryz.zeroValue284
 t46 := Tryz.underlying373
 a46 := Tryz.isAgg373
 z46 := Tryz.sizeOf373
 v46 := Tryz.zeroValue373
 t51 := Tryz.underlying376
 a51 := Tryz.isAgg376
 z51 := Tryz.sizeOf376
 v51 := Tryz.zeroValue376
 t53 := Tryz.underlying368
 a53 := Tryz.isAgg368
 z53 := Tryz.sizeOf368
 v53 := Tryz.zeroValue368
 t171 := Tryz.underlying367
 a171 := Tryz.isAgg367
 z171 := Tryz.sizeOf367
 v171 := Tryz.zeroValue367
 t173 := Tryz.underlying371
 a173 := Tryz.isAgg371
 z173 := Tryz.sizeOf371
 v173 := Tryz.zeroValue371
 t212 := Tryz.underlying375
 a212 := Tryz.isAgg375
 z212 := Tryz.sizeOf375
 v212 := Tryz.zeroValue375
 t213 := Tryz.underlying377
 a213 := Tryz.isAgg377
 z213 := Tryz.sizeOf377
 t232 := Tryz.underlying386
 a232 := Tryz.isAgg386
 z232 := Tryz.sizeOf386
 v232 := Tryz.zeroValue386
 t233 := Tryz.underlying387
 a233 := Tryz.isAgg387
 z233 := Tryz.sizeOf387
 v233 := Tryz.zeroValue387
 g17 := by kernel_rfl
 g18 := by kernel_rfl
 g19 := by kernel_rfl }
open Go.RowKit Go.Sort Go.Lib in
theorem Tryz.strconv_Itoa_small (i : Nat) (hi : i < 100) (w : World) :
  Calls Tryz.prog 238 #[.int .i64 i] w fun e w' => e = .returned (.string ⟨(Lib.decDigits i).toArray⟩) ∧ w' = w := Any.strconv_Itoa_small Tryz.lays171 i hi w
end Go.Proofs

set_option linter.unusedVariables false
set_option linter.unusedSimpArgs false
namespace Go.AL
open Go.Proofs Go.RowKit
variable {Γ : Glob}
attribute [local irreducible] codeW opsW dopsW
def str (s : ByteArray) : AV := .v (.string s)
def strs (l : List ByteArray) : List AV := l.map str
def slStr (l : List ByteArray) : AV := .sl (strs l) l.length
def bSp : ByteArray := ⟨#[32]⟩
def bNl : ByteArray := ⟨#[10]⟩
theorem Ext.below {w w' : World} {σ : Sig} (h : Below w.heap.size w w') : Ext w σ w' σ :=
 ⟨h.size, fun b hb hs => ⟨h.block b hb, hs⟩, fun b _ cs s c hh => ⟨cs, hh⟩, h.os, h.tape, h.output⟩
theorem Rel.below {w w' : World} {σ : Sig} (r : Rel Γ w σ) (h : Below w.heap.size w w') : Rel Γ w' σ := by
 have e : Ext w σ w' σ := .below h
 refine ⟨fun b x hx => ?_, fun g cs hg => ?_⟩
 ·obtain ⟨h1, h2⟩ := r.blk b x hx
  exact ⟨Nat.lt_of_lt_of_le h1 h.size, h2.ext e (h.block b h1)⟩
 ·obtain ⟨vs, h1, h2⟩ := r.glob g cs hg
  exact ⟨vs, h1.ext e, h2.ext e⟩
theorem pcalls_lib {P : Program} {f : FuncId} {args : List AV} {r : AV} (he : ∀ w (vs : Array Value), (callFunc f vs).run P w = .ok (.enter f vs) w)
  (h : ∀ (σ : Sig) (w : World) (vs : List Value), Rel Γ w σ → Reps w σ args vs → Calls P f vs.toArray w fun e w' => ∃ v, e = .returned v ∧ Rep w' σ r v ∧ Below w.heap.size w w') : PCalls P Γ f args r := fun σ =>
 ⟨he, fun w vs rel hv => callsIn_wide.2 ((h σ w vs rel hv).mono fun e w' ⟨v, h1, h2, h3⟩ => ⟨v, r, σ, h1, h2, rel.below h3, .below h3, rfl, rfl⟩)⟩
theorem sl_inv {w : World} {σ : Sig} {cs : List AV} {n : Nat} {v : Value} (h : Rep w σ (.sl cs n) v) : (v = .slice none 0 0 ∧ cs = [] ∧ n = 0) ∨ ∃ vs a cap, v = .slice (some a) n cap ∧ Reps w σ cs vs ∧ RunAt w σ a vs ∧ n ≤ cap := by
 cases h with
 | slnil => exact .inl ⟨rfl, rfl, rfl⟩
 | sl h hr hn => exact .inr ⟨_, _, _, rfl, h, hr, hn⟩
theorem strs_inv {w : World} {σ : Sig} : ∀ {l : List ByteArray} {vs : List Value}, Reps w σ (strs l) vs → vs = l.map Value.string
 | [], _, .nil => rfl
 | x :: l, _, .cons (.v _) h' => by rw [strs_inv (l := l) h']; rfl
theorem spot_none {w : World} {a : Addr} {v : Value} (h : w.cell? a = some v) : a.spot = none := by
 unfold World.cell? at h
 split at h
 ·split at h
  ·cases h
  ·rename_i h'
   simpa using h'
 ·cases h
def joinP (l : List ByteArray) (sep : ByteArray) : ByteArray := ⟨(Lib.join (l.map (·.data.toList)) sep.data.toList).toArray⟩
theorem f182 (l : List ByteArray) (sep : ByteArray) (hl : Fits l.length) (hlen : (Lib.join (l.map (·.data.toList)) sep.data.toList).length ≤ 140737488355328) : PCalls Tryz.prog Γ 182 [slStr l, str sep] (str (joinP l sep)) := by
 refine pcalls_lib (fun w vs => by kernel_rfl) fun σ w vs rel hv => ?_
 cases hv with | cons h1 hv => cases hv with | cons h2 hv => cases hv with | nil =>
 cases h2
 rcases sl_inv h1 with ⟨rfl, hcs, hn⟩ | ⟨us, a, cap, rfl, hus, hr, hcap⟩
 ·have : l = [] := by cases l with | nil => rfl | cons x l => simp at hn
  subst this
  exact (Tryz.strings_Join_none none 0 sep w).mono fun e w' ⟨h1, h2⟩ => ⟨_, h1, .v _, by rw [h2]; exact Below.refl _ _⟩
 ·obtain rfl := strs_inv hus
  cases l with
  | nil => exact (Tryz.strings_Join_none (some a) cap sep w).mono fun e w' ⟨h1, h2⟩ => ⟨_, h1, .v _, by rw [h2]; exact Below.refl _ _⟩
  | cons x l =>
   obtain ⟨g1, g2, g3⟩ := hr (by simp)
   have hs : a.spot = none := spot_none (g3 0 (.string x) rfl)
   obtain ⟨bk, o, sp⟩ := a
   simp only at hs
   subst hs
   refine (Tryz.strings_Join bk o cap (x :: l) sep w (fun j y hy => ?_) g1 (by omega) hcap hlen).mono fun e w' ⟨h1, h2⟩ => ⟨_, h1, .v _, h2⟩
   have := g3 j (.string y) (by rw [List.getElem?_map, hy]; rfl)
   rwa [plain_add] at this
theorem f238_small (i : Nat) (hi : i < 100) : PCalls Tryz.prog Γ 238 [int i] (str ⟨(Lib.decDigits i).toArray⟩) := by
 refine pcalls_lib (fun w vs => by kernel_rfl) fun σ w vs rel hv => ?_
 cases hv with | cons h1 hv => cases hv with | nil =>
 cases h1
 exact (Tryz.strconv_Itoa_small i hi w).mono fun e w' ⟨h1, h2⟩ => ⟨_, h1, .v _, by rw [h2]; exact Below.refl _ _⟩
theorem strs_one (l : List ByteArray) : (strs l).all AV.one = true := by
 induction l with
 | nil => rfl
 | cons x l ih => rw [strs, List.map_cons, List.all_cons]; exact ih
theorem joinP_size (l : List ByteArray) (sep : ByteArray) (h : (Lib.join (l.map (·.data.toList)) sep.data.toList).length ≤ 140737488355328) : (joinP l sep).size ≤ 140737488355328 := by
 show ((Lib.join (l.map (·.data.toList)) sep.data.toList).toArray).size ≤ _
 simpa using h
theorem gPow : Tryz.prog.globalNamed "internal/strconv.uint64pow10" = some 5 := by kernel_rfl
def powT : List AV := Lib.pow10Tab.map fun z => .v (.int .u64 z)
theorem ints_u64 {w : World} {σ : Sig} : ∀ {l : List Int} {vs : List Value}, Reps w σ (l.map fun z => AV.v (.int .u64 z)) vs → vs = l.map fun z => Value.int .u64 z
 | [], _, .nil => rfl
 | x :: l, _, .cons (.v _) h' => by rw [ints_u64 (l := l) h']; rfl
def itoaP (n : Int) : ByteArray := ⟨(Lib.itoa n).toArray⟩
theorem f238 (hG : Γ 5 = some powT) (n : Int) (h0 : -9223372036854775808 ≤ n) (h1 : n ≤ 9223372036854775807) : PCalls Tryz.prog Γ 238 [int n] (str (itoaP n)) := by
 refine pcalls_lib (fun w vs => by kernel_rfl) fun σ w vs rel hv => ?_
 cases hv with | cons hx hv => cases hv with | nil =>
 cases hx
 obtain ⟨us, hu, hlt, hσ, el, fz, hh⟩ := rel.glob 5 _ hG
 obtain rfl := ints_u64 hu
 have htab : Lib.TabIs Tryz.prog w "internal/strconv.uint64pow10" .u64 Lib.pow10Tab := by
  simp [Lib.TabIs, World.var?, gPow, hh]
 refine (Tryz.strconv_Itoa n h0 h1 w htab).mono fun e w' ⟨g1, k, os, g2⟩ => ⟨_, g1, .v _, ?_⟩
 rw [g2]
 refine ⟨rfl, rfl, rfl, by simp [Go.Sort.grow], fun j hj => ?_⟩
 simp [Go.Sort.grow, Array.getElem?_append, hj]
end Go.AL

namespace Go.AL
open Go.Proofs Go.RowKit
variable {Γ : Glob}
attribute [local irreducible] codeW opsW dopsW
def byteV (l : List UInt8) : List Value := l.map fun c => .int .u8 c.toNat
def Buf (σ0 σ : Sig) (v : Value) (l : List UInt8) : Prop :=
 (v = .slice none 0 0 ∧ l = []) ∨ ∃ g cap rest, v = .slice (some ⟨g, 0, none⟩) l.length cap ∧ l ≠ [] ∧ σ0 g = none ∧ σ g = some (.var ((byteV l ++ rest).map .v) 5) ∧ (byteV l ++ rest).length = cap
def blkV : Value → Option Nat
 | .slice (some a) _ _ => some a.block
 | _ => none
structure Bld (σ0 σ : Sig) (b : Nat) (v : Value) (l : List UInt8) : Prop where
 own : σ0 b = none
 var : ∃ p, σ b = some (.var [.v (.pointer p), .v v] 286) ∧ (p = none ∨ p = some ⟨b, 0, none⟩)
 buf : Buf σ0 σ v l
 drop : Drop σ σ0
theorem Buf.keep {σ0 σ σ' : Sig} {v : Value} {l : List UInt8} (h : Buf σ0 σ v l) (hk : ∀ g, blkV v = some g → σ' g = σ g) : Buf σ0 σ' v l := by
 rcases h with h | ⟨g, cap, rest, rfl, h1, h2, h3, h4⟩
 ·exact .inl h
 ·exact .inr ⟨g, cap, rest, rfl, h1, h2, by rw [hk g rfl]; exact h3, h4⟩
theorem Buf.ne {σ0 σ : Sig} {v : Value} {l : List UInt8} (h : Buf σ0 σ v l) {b : Nat} {x : Blk} (hb : σ b = some x) (hx : ∀ cs, x ≠ .var cs 5) : blkV v ≠ some b := fun e => by
 rcases h with ⟨rfl, _⟩ | ⟨g, cap, rest, rfl, h1, h2, h3, h4⟩
 ·cases e
 ·cases e
  rw [hb] at h3
  cases h3
  exact hx _ rfl
end Go.AL
