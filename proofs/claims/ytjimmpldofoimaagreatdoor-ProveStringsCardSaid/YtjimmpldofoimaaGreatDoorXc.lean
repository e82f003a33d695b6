/- Formulas: their data, the checks of nodes and formulas. -/
import Derived.Test.YtjimmpldofoimaaGreatDoorAlBase
import Derived.Test.YtjimmpldofoimaaGreatDoorAlEq
import Derived.Test.YtjimmpldofoimaaGreatDoorAlSeq
import Derived.Test.YtjimmpldofoimaaGreatDoorAm
import Derived.Test.YtjimmpldofoimaaGreatDoorV1
import Derived.Test.YtjimmpldofoimaaGreatDoorVa
import Derived.Test.YtjimmpldofoimaaGreatDoorWb
import Derived.Test.YtjimmpldofoimaaGreatDoorWd
import Derived.Lib.ItoaLen
open Nat renaming reduceEqDiff → xQ, reduceAdd → xA, reduceMul → xM, reduceLeDiff → xL
open Int renaming reduceLT → xT, reduceLE → xE, reduceToNat → xN
open Go.AL renaming retPost_one → xP, retPost_oneN → xR, ers_at' → xS
set_option linter.unusedVariables false
set_option linter.unusedSimpArgs false
namespace Go.AL
open Go.Proofs
variable {Γ : Glob}
attribute [local irreducible] codeW opsW dopsW
structure Nd where
  kind : Int
  term : Tm
  kids : List Int
  deriving DecidableEq, Inhabited
def ndC (n : Nd) : List AV := [int n.kind, slI n.term.coeffs, int n.term.const, slI n.kids]
def ndA (n : Nd) : AV := .agg (ndC n)
def slN (l : List Nd) : AV := .sl (l.flatMap ndC) l.length
structure Fm where
  vars : Int
  nodes : List Nd
  deriving DecidableEq, Inhabited
def fmC (f : Fm) : List AV := [int f.vars, slN f.nodes]
def fmA (f : Fm) : AV := .agg (fmC f)
/-- A node with its index. -/
def atC (n : Nd) (i : Int) : List AV := [int n.kind, slI n.term.coeffs, int n.term.const, slI n.kids, int i]
def atA (n : Nd) (i : Int) : AV := .agg (atC n i)
attribute [go_sem] ndC ndA slN fmC fmA atC atA
theorem ndC_len (n : Nd) : (ndC n).length = 4 := rfl
theorem nd_part {l : List Nd} {k : Nat} {t : Nd} (h : l[k]? = some t) (z : List AV) : TK.part ⟨true, 4, z⟩ (l.flatMap ndC) (k * 4) = some (ndA t) := part_rows (k := ⟨true, 4, z⟩) rfl ndC_len h
theorem nd_get0 {l : List Nd} {k : Nat} {t : Nd} (h : l[k]? = some t) : (l.flatMap ndC)[k * 4]? = some (int t.kind) := rows_get0 ndC_len h (by decide)
theorem callB_mono {P : Program} {Γ : Glob} {fv : AV} {args : List AV} {σ : Sig} {K K' : AV → Sig → Prop} (hk : ∀ r σ', K r σ' → K' r σ') (h : callB P Γ fv args σ K) : callB P Γ fv args σ K' := callOp_mono hk h
def strV (s : ByteArray) : AV := .v (.string s)
def boolV (b : Bool) : AV := .v (.bool b)
attribute [go_sem] strV boolV
theorem f217 (k : Int) (t : Tm) : PCalls Tryz.prog Γ 217 [int k, tmA t] (ndA ⟨k, t, []⟩) := by
  refine pcalls (ok217 Γ) fun σ => ?_
  simp only [go_sem, xQ, ↓reduceIte, xA, xM, xL, xT, xE, xN, xP, xR, xS, Tryz.f217]
  intro b hb
  simp only [go_sem, xQ, ↓reduceIte, xA, xM, xL, xT, xE, xN, xP, xR, xS]
  exact ⟨.agg (.cons (.refl _) (.cons (.refl _) (.cons (.refl _) (.cons .nil .nil)))), by repeat (first | exact Drop.refl _ | assumption | refine Drop.upd ?_ (by assumption))⟩
theorem f137 (f : Fm) : PCalls Tryz.prog Γ 137 [fmA f] (.fn (.func 220) [] [.pp (fmC f) 0]) := by
  refine pcalls (ok137 Γ) fun σ => ?_
  simp only [go_sem, xQ, ↓reduceIte, xA, xM, xL, xT, xE, xN, xP, xR, xS, Tryz.f137]
/-! ### The checks -/
theorem f221 (n : Nd) (i k : Int) : PCalls Tryz.prog Γ 221 [int k, .pp (atC n i) 0] (int (earlierE k i)) := by
  refine pcalls (ok221 Γ) fun σ => ?_
  by_cases h : k < 0
  · simp only [go_sem, xQ, ↓reduceIte, xA, xM, xL, xT, xE, xN, xP, xR, xS, Tryz.f221, h]
    refine callB_use (f144 _ _) rfl ?_
    simp only [go_sem, xQ, ↓reduceIte, xA, xM, xL, xT, xE, xN, xP, xR, xS]
    exact retP_eq (by simp [earlierE, h])
  · simp only [go_sem, xQ, ↓reduceIte, xA, xM, xL, xT, xE, xN, xP, xR, xS, Tryz.f221, h]
    refine callB_use (f144 _ _) rfl ?_
    simp only [go_sem, xQ, ↓reduceIte, xA, xM, xL, xT, xE, xN, xP, xR, xS]
    exact retP_eq (by simp [earlierE, h])
end Go.AL

/- Check of formulas. -/
set_option linter.unusedVariables false
set_option linter.unusedSimpArgs false
namespace Go.AL
open Go.Proofs
variable {Γ : Glob}
attribute [local irreducible] codeW opsW dopsW
def NdFit (n : Nd) : Prop := Fits n.term.coeffs.length ∧ Fits n.kids.length
end Go.AL

/- The reference's checks; own copies; ranges. -/
set_option linter.unusedVariables false
set_option linter.unusedSimpArgs false
namespace Go.AL
open Go.Proofs
variable {Γ : Glob}
attribute [local irreducible] codeW opsW dopsW
end Go.AL

/- The reference's Check, Short; own copies; ranges. -/
set_option linter.unusedVariables false
set_option linter.unusedSimpArgs false
namespace Go.AL
open Go.Proofs
variable {Γ : Glob}
attribute [local irreducible] codeW opsW dopsW
end Go.AL

/- Holds of the program. -/
set_option linter.unusedVariables false
set_option linter.unusedSimpArgs false
namespace Go.AL
open Go.Proofs
variable {Γ : Glob}
attribute [local irreducible] codeW opsW dopsW
def bv (b : Bool) : AV := .v (.bool b)
def slB (l : List Bool) : AV := .sl (l.map bv) l.length
theorem bv_get {l : List Bool} {k : Nat} {b : Bool} (h : l[k]? = some b) : (l.map bv)[k]? = some (.v (.bool b)) := by rw [List.getElem?_map, h]; rfl
attribute [go_sem] slB
def idxX {α : Type} (g : α → Bool) : Nat → List α → Int
  | _, [] => -1
  | k, x :: l => if g x then (k : Int) else idxX g (k + 1) l
theorem idxX_any {α : Type} (g : α → Bool) (k : Nat) (l : List α) : decide (0 ≤ idxX g k l) = l.any g := by
  induction l generalizing k with
  | nil => simp [idxX]
  | cons x l ih =>
    rw [List.any_cons, idxX]
    cases h : g x with
    | true => simp
    | false => simpa using ih (k + 1)
theorem f321 (l : List Bool) (hl : Fits l.length) (v : Bool) : PCalls Tryz.prog Γ 321 [slB l, .v (.bool v)] (int (idxX (fun b => v == b) 0 l)) := by
  refine pcalls (ok321 Γ) fun σ => ?_
  simp only [go_sem, xQ, ↓reduceIte, xA, xM, xL, xT, xE, xN, xP, xR, xS, Tryz.f321]
  refine SemC.loopK mixed l.length (fun k ρ σ' ds => σ' = σ ∧ ds = [] ∧ ρ 0 = slB l ∧ ρ 1 = .v (.bool v) ∧ ρ 7 = int l.length ∧ ρ 8 = int k ∧ idxX (fun b => v == b) 0 l = idxX (fun b => v == b) k (l.drop k)) (by kernel_rfl) ⟨rfl, rfl, rfl, rfl, rfl, rfl, rfl⟩ ?_
  rintro k ρ σ' ds hk ⟨rfl, rfl, h0, h1, h7, h8, hz⟩
  rcases get_or_end l k hk with ⟨x, hx, hlt, hd⟩ | hk
  · rw [hd, idxX] at hz
    cases hb : (v == x) with
    | true =>
      rw [hb] at hz
      simp only [go_sem, xQ, ↓reduceIte, xA, xM, xL, xT, xE, xN, xP, xR, xS, h0, h1, h7, h8, hlt, ↓bv_get hx, hb]
      exact retP_eq (by rw [hz]; rfl)
    | false =>
      rw [hb] at hz
      simp only [go_sem, xQ, ↓reduceIte, xA, xM, xL, xT, xE, xN, xP, xR, xS, h0, h1, h7, h8, hlt, ↓bv_get hx, hb]
      exact ⟨by rw [wrap_succ _ (by omega)], hz⟩
  · subst hk
    rw [List.drop_length, idxX] at hz
    simp only [go_sem, xQ, ↓reduceIte, xA, xM, xL, xT, xE, xN, xP, xR, xS, h0, h1, h7, h8, Nat.lt_irrefl]
    exact retP_eq (by rw [hz])
theorem f319 (l : List Bool) (hl : Fits l.length) (v : Bool) : PCalls Tryz.prog Γ 319 [slB l, .v (.bool v)] (.v (.bool (l.any fun b => v == b))) := by
  refine pcalls (ok319 Γ) fun σ => ?_
  simp only [go_sem, xQ, ↓reduceIte, xA, xM, xL, xT, xE, xN, xP, xR, xS, Tryz.f319]
  refine callB_use (f321 l hl v) rfl ?_
  simp only [go_sem, xQ, ↓reduceIte, xA, xM, xL, xT, xE, xN, xP, xR, xS]
  exact retP_eq (by rw [idxX_any])
theorem f317 (b : Bool) (l : List Bool) : PCalls Tryz.prog Γ 317 [slB (b :: l)] (.v (.bool (!b))) := by
  have h1 : (0 : Int) < ((l.length + 1 : Nat) : Int) := by omega
  refine pcalls (ok317 Γ) fun σ => ?_
  simp only [go_sem, xQ, ↓reduceIte, xA, xM, xL, xT, xE, xN, xP, xR, xS, Tryz.f317, h1, List.length_cons, List.map_cons, bv, List.getElem?_cons_zero]
theorem f318 (l : List Bool) (hl : Fits l.length) : PCalls Tryz.prog Γ 318 [slB l] (.v (.bool (!(l.any fun b => false == b)))) := by
  refine pcalls (ok318 Γ) fun σ => ?_
  simp only [go_sem, xQ, ↓reduceIte, xA, xM, xL, xT, xE, xN, xP, xR, xS, Tryz.f318]
  refine callB_use (f319 l hl false) rfl ?_
  simp only [go_sem, xQ, ↓reduceIte, xA, xM, xL, xT, xE, xN, xP, xR, xS]
theorem f320 (l : List Bool) (hl : Fits l.length) : PCalls Tryz.prog Γ 320 [slB l] (.v (.bool (l.any fun b => true == b))) := by
  refine pcalls (ok320 Γ) fun σ => ?_
  simp only [go_sem, xQ, ↓reduceIte, xA, xM, xL, xT, xE, xN, xP, xR, xS, Tryz.f320]
  refine callB_use (f319 l hl true) rfl ?_
  simp only [go_sem, xQ, ↓reduceIte, xA, xM, xL, xT, xE, xN, xP, xR, xS]
structure NodeOk (n : Nd) (i : Nat) (vars : Int) : Prop where
  lo : 0 ≤ n.kind
  hi : n.kind ≤ 4
  term : n.kind ≤ 1 → checkTermE n.term vars = 0 ∧ (n.term.coeffs.length : Int) = vars ∧ n.kids = []
  form : 2 ≤ n.kind → n.term = ⟨[], 0⟩ ∧ n.kids.length ≤ 200 ∧ (n.kind = 2 → n.kids.length = 1) ∧ ∀ k ∈ n.kids, 0 ≤ k ∧ k < i
end Go.AL

/- Holds. -/
set_option linter.unusedVariables false
set_option linter.unusedSimpArgs false
namespace Go.AL
open Go.Proofs
variable {Γ : Glob}
attribute [local irreducible] codeW opsW dopsW
end Go.AL

/- Slices of no elements: nil, or not; told apart at the call. -/
set_option linter.unusedVariables false
set_option linter.unusedSimpArgs false
namespace Go.AL
open Go.Proofs
theorem pcalls_nil {P : Program} {Γ : Glob} {f : FuncId} {args : List AV} {r : AV} (h1 : PCalls P Γ f (.v (.slice none 0 0) :: args) r) (h2 : ∀ a c, PCalls P Γ f (.v (.slice (some a) 0 c) :: args) r) : PCalls P Γ f (.sl [] 0 :: args) r := fun σ => by
  refine ⟨(h1 σ).1, fun w vs hr hv => ?_⟩
  cases hv with
  | cons hx hs =>
    cases hx with
    | slnil => exact (h1 σ).2 w _ hr (.cons (.v _) hs)
    | sl _ _ _ => exact (h2 _ _ σ).2 w _ hr (.cons (.v _) hs)
theorem appB_weak {P : Program} {Γ : Glob} {σ : Sig} {t0 t1 : TypeId} {s x x' : AV} {K : AV → Sig → Prop} (hx : ∀ w v, Rep w σ x v → Rep w σ x' v) (h : appB P Γ σ t0 t1 s x' K) : appB P Γ σ t0 t1 s x K := fun ty w vs hr hv => by
  cases hv with
  | cons h1 h2 =>
    cases h2 with
    | cons h3 h4 =>
      cases h4
      exact h ty w _ hr (.cons h1 (.cons (hx _ _ h3) .nil))
theorem weak_empty {σ : Sig} {a : Addr} {c : Nat} (w : World) (v : Value) (h : Rep w σ (.v (.slice (some a) 0 c)) v) : Rep w σ (.sl [] 0) v := by
  cases h
  exact .sl .nil (fun h => absurd rfl h) (Nat.zero_le _)
/-- An append onto nothing, told as frozen. -/
theorem appB_frz {P : Program} {Γ : Glob} {σ : Sig} {t0 t1 e e1 : TypeId} {k : TK} {bytes : Nat} (h : elemOf P t0 = some (none, e)) (hk : tkOf P e = some k) (hb : P.bytesOf e = bytes) (h1 : elemOf P t1 = some (none, e1)) (hs : k.size ≠ 0) (hz : k.zero.length = k.size) (hp : 0 < bytes) {cs : List AV} {n : Nat} (hl : cs.length = n * k.size) (hsum : n * bytes ≤ 140737488355328) : ∀ K : AV → Sig → Prop, K (.sl cs n) σ → appB P Γ σ t0 t1 .e0 (.sl cs n) K := fun K hK =>
  appB_pure (k := k) (x := .sl cs n) (xs := cs) (n := n) (appT_sl h hk hb h1 hs hz hp) (.inr rfl) (show Src σ k.size (.sl cs n) cs n from ⟨rfl, rfl, hl⟩) hl hsum hK
end Go.AL

/- Own copies of nodes; terms added; Opposite. -/
set_option linter.unusedVariables false
set_option linter.unusedSimpArgs false
namespace Go.AL
open Go.Proofs
variable {Γ : Glob}
attribute [local irreducible] codeW opsW dopsW
theorem Grow.neS {σ0 σ : Sig} {s n b s' c' : Nat} {a : AV} {cs cs' : List AV} (h : Grow σ0 σ s a cs n) (hb : σ b = some (.row cs' s' c')) (hs : s' ≠ s) : ∀ s1 o m, a ≠ .own b s1 o m := fun s1 o m e => by
  rcases h with ⟨h, _⟩ | ⟨b', c, h0, h1, h2, h3⟩
  · rcases h with h | h <;> rw [h] at e <;> cases e
  · rw [h0] at e
    cases e
    rw [hb] at h2
    cases h2
    exact hs rfl
theorem f193 (l : List Int) (hl : Fits l.length) : PCalls Tryz.prog Γ 193 [slI l] (slI l) := by
  by_cases h : l = []
  · subst h
    refine pcalls_nil ?_ (fun a c => ?_)
    · refine pcalls (ok193 Γ) fun σ => ?_
      simp only [go_sem, xQ, ↓reduceIte, xA, xM, xL, xT, xE, xN, xP, xR, xS, Tryz.f193]
      exact ⟨.nil, Drop.refl _⟩
    · refine pcalls (ok193 Γ) fun σ => ?_
      simp only [go_sem, xQ, ↓reduceIte, xA, xM, xL, xT, xE, xN, xP, xR, xS, Tryz.f193]
      refine appB_weak weak_empty (appB_pure (appT_sl el46 tk3 by3 el46 (by decide) rfl (by decide)) (.inr rfl) (src_slI _ []) (by simp [ints]) (by omega) ?_)
      simp only [go_sem, xQ, ↓reduceIte, xA, xM, xL, xT, xE, xN, xP, xR, xS]
  · have h' : ints l ≠ [] := by simpa [ints] using h
    refine pcalls (ok193 Γ) fun σ => ?_
    simp only [go_sem, xQ, ↓reduceIte, xA, xM, xL, xT, xE, xN, xP, xR, xS, Tryz.f193, h']
    refine appB_pure (appT_sl el46 tk3 by3 el46 (by decide) rfl (by decide)) (.inr rfl) (src_slI _ l) (by simp [ints]) (by omega) ?_
    simp only [go_sem, xQ, ↓reduceIte, xA, xM, xL, xT, xE, xN, xP, xR, xS]
theorem f151 (t : Tm) (hl : Fits t.coeffs.length) : PCalls Tryz.prog Γ 151 [tmA t] (tmA t) := by
  refine pcalls (ok151 Γ) fun σ => ?_
  simp only [go_sem, xQ, ↓reduceIte, xA, xM, xL, xT, xE, xN, xP, xR, xS, Tryz.f151]
  intro b hb
  simp only [go_sem, xQ, ↓reduceIte, xA, xM, xL, xT, xE, xN, xP, xR, xS]
  refine callB_use (f193 t.coeffs hl) rfl ?_
  simp only [go_sem, xQ, ↓reduceIte, xA, xM, xL, xT, xE, xN, xP, xR, xS]
  exact retP_drop (by repeat (first | exact Drop.refl _ | assumption | refine Drop.upd ?_ (by assumption))) (rfl)
theorem f227 (k n : Int) : PCalls Tryz.prog Γ 227 [int k, .pp [int n] 0] (int (IntKind.i64.wrap (k + n))) := by
  refine pcalls (ok227 Γ) fun σ => ?_
  simp only [go_sem, xQ, ↓reduceIte, xA, xM, xL, xT, xE, xN, xP, xR, xS, Tryz.f227]
theorem f226 (l : List Int) (hl : Fits l.length) (fv : AV) (g : Int → Int) (hg : ∀ x ∈ l, DCall Tryz.prog Γ fv [int x] (int (g x))) : PCalls Tryz.prog Γ 226 [slI l, fv] (slI (l.map g)) := by
  refine pcalls (ok226 Γ) fun σ => ?_
  simp only [go_sem, xQ, ↓reduceIte, xA, xM, xL, xT, xE, xN, xP, xR, xS, Tryz.f226]
  refine SemC.loopK mixed l.length (fun k ρ σ' ds => Drop σ' σ ∧ ds = [] ∧ ρ 1 = fv ∧ ρ 8 = slI l ∧ ρ 9 = int l.length ∧ ρ 10 = int k ∧ Grow σ σ' 1 (ρ 5) (ints ((l.take k).map g)) k) (by kernel_rfl) ⟨.refl _, rfl, rfl, rfl, rfl, rfl, .nil _ _ _⟩ ?_
  rintro k ρ σ' ds hk ⟨hD, rfl, h1, h8, h9, h10, hG⟩
  rcases get_or_end l k hk with ⟨x, hx, hlt, hd⟩ | rfl
  · simp only [go_sem, xQ, ↓reduceIte, xA, xM, xL, xT, xE, xN, xP, xR, xS, h1, h8, h9, h10, hlt, hx]
    refine callB_d (hg x (mem_of_get hx)) ?_
    simp only [go_sem, xQ, ↓reduceIte, xA, xM, xL, xT, xE, xN, xP, xR, xS]
    refine appB_sl (appT_sl el46 tk3 by3 el46 (by decide) rfl (by decide)) hD hG rfl rfl (by omega) (fun a' σ2 hD2 hO hG2 => ?_)
    simp only [go_sem, xQ, ↓reduceIte, xA, xM, xL, xT, xE, xN, xP, xR, xS, h1, h8, h9, h10]
    refine ⟨hD2, by rw [wrap_succ _ (by omega)], ?_⟩
    rw [take_succ hx]
    simpa [ints, int] using hG2
  · simp only [go_sem, xQ, ↓reduceIte, xA, xM, xL, xT, xE, xN, xP, xR, xS, h8, h9, h10, Nat.lt_irrefl]
    have := hG.retP hD
    simpa [slI] using this
def shiftN (n : Int) (x : Nd) : Nd := ⟨x.kind, x.term, x.kids.map fun k => IntKind.i64.wrap (k + n)⟩
theorem f156 (x : Nd) (n : Int) (hx : NdFit x) : PCalls Tryz.prog Γ 156 [ndA x, int n] (ndA (shiftN n x)) := by
  have ht := hx.1
  have hk := hx.2
  refine pcalls (ok156 Γ) fun σ => ?_
  simp only [go_sem, xQ, ↓reduceIte, xA, xM, xL, xT, xE, xN, xP, xR, xS, Tryz.f156]
  intro b hb
  simp only [go_sem, xQ, ↓reduceIte, xA, xM, xL, xT, xE, xN, xP, xR, xS]
  refine dcallB_use (f151 x.term ht) rfl ?_
  simp only [go_sem, xQ, ↓reduceIte, xA, xM, xL, xT, xE, xN, xP, xR, xS]
  refine dcallB_use (f226 x.kids hk _ (fun k => IntKind.i64.wrap (k + n)) (fun k _ => dcall_of (f227 k n) rfl)) rfl ?_
  simp only [go_sem, xQ, ↓reduceIte, xA, xM, xL, xT, xE, xN, xP, xR, xS]
  exact retP_drop (by repeat (first | exact Drop.refl _ | assumption | refine Drop.upd ?_ (by assumption))) (by simp [shiftN, ndA, ndC, slI, int])
theorem f165 (x : Nd) (hx : NdFit x) : PCalls Tryz.prog Γ 165 [ndA x] (ndA (shiftN 0 x)) := by
  refine pcalls (ok165 Γ) fun σ => ?_
  simp only [go_sem, xQ, ↓reduceIte, xA, xM, xL, xT, xE, xN, xP, xR, xS, Tryz.f165]
  intro b hb
  simp only [go_sem, xQ, ↓reduceIte, xA, xM, xL, xT, xE, xN, xP, xR, xS]
  refine callB_use (f156 x 0 hx) rfl ?_
  simp only [go_sem, xQ, ↓reduceIte, xA, xM, xL, xT, xE, xN, xP, xR, xS]
  exact retP_drop (by repeat (first | exact Drop.refl _ | assumption | refine Drop.upd ?_ (by assumption))) (rfl)
/-! ### Terms added -/
def plusC (m : Int) : List Int → List Int → List Int
  | a :: bs, c :: cs => IntKind.i64.wrap (a + IntKind.i64.wrap (m * c)) :: plusC m bs cs
  | bs, [] => bs
  | [], _ => []
theorem plusC_nil (m : Int) (l : List Int) : plusC m l [] = l := by cases l <;> rfl
theorem plusC_len (m : Int) : ∀ (l cs : List Int), (plusC m l cs).length = l.length
  | [], [] => rfl
  | [], _ :: _ => rfl
  | _ :: _, [] => rfl
  | a :: l, c :: cs => by rw [plusC, List.length_cons, List.length_cons, plusC_len m l cs]
theorem plusC_get (m : Int) : ∀ (l cs : List Int) (k : Nat) (a c : Int), l[k]? = some a → cs[k]? = some c → (plusC m l cs)[k]? = some (IntKind.i64.wrap (a + IntKind.i64.wrap (m * c)))
  | [], _, _, _, _, h, _ => by simp at h
  | _ :: _, [], _, _, _, _, h => by simp at h
  | x :: l, y :: cs, 0, a, c, h, k => by simp at h k; subst h; subst k; rfl
  | x :: l, y :: cs, k + 1, a, c, h, h' => by
    rw [plusC, List.getElem?_cons_succ]
    exact plusC_get m l cs k a c (by simpa using h) (by simpa using h')
theorem plusC_past (m : Int) : ∀ (l cs : List Int) (k : Nat), cs.length ≤ k → (plusC m l cs).drop k = l.drop k
  | l, [], k, _ => by rw [plusC_nil]
  | [], c :: cs, k, _ => rfl
  | a :: l, c :: cs, 0, h => by simp at h
  | a :: l, c :: cs, k + 1, h => by
    rw [plusC, List.drop_succ_cons, List.drop_succ_cons]
    exact plusC_past m l cs k (by simpa using h)
def mix (l l' : List Int) (k : Nat) : List Int := l'.take k ++ l.drop k
theorem mix_zero (l l' : List Int) : mix l l' 0 = l := by simp [mix]
theorem mix_len {l l' : List Int} (h : l'.length = l.length) {k : Nat} (hk : k ≤ l.length) : (mix l l' k).length = l.length := by simp [mix]; omega
theorem mix_get {l l' : List Int} (h : l'.length = l.length) {k : Nat} (hk : k ≤ l.length) : (mix l l' k)[k]? = l[k]? := by
  have hm : (l'.take k).length = k := by rw [List.length_take, h]; exact Nat.min_eq_left hk
  rw [mix, List.getElem?_append_right (by omega), hm, Nat.sub_self, List.getElem?_drop, Nat.add_zero]
theorem mix_set {l l' : List Int} (h : l'.length = l.length) {k : Nat} {x : Int} (hk : k < l.length) (hx : l'[k]? = some x) : (mix l l' k).set k x = mix l l' (k + 1) := by
  have hl : (l'.take k).length = k := by simp; omega
  rw [mix, mix, take_succ hx, List.set_append_right _ _ (by omega), hl, Nat.sub_self]
  obtain ⟨y, hy, hd⟩ : ∃ y, l[k]? = some y ∧ l.drop k = y :: l.drop (k + 1) := ⟨l[k], List.getElem?_eq_getElem hk, by rw [List.drop_eq_getElem_cons hk]⟩
  rw [hd, List.set_cons_zero, List.append_assoc, List.singleton_append]
theorem ints_put' {l : List Int} {k : Nat} {x : Int} (h : k < l.length) : putL (ints l) k [AV.v (.int .i64 x)] = ints (l.set k x) := by
  rw [putL, ints, ints, List.map_set, List.set_eq_take_append_cons_drop, if_pos (by simpa using h)]
  simp [int]
theorem ints_zeros' (n : Nat) : (List.replicate n [AV.v (.int .i64 0)]).flatten = ints (List.replicate n 0) := by
  induction n with
  | zero => rfl
  | succ n ih => rw [List.replicate_succ, List.replicate_succ, List.flatten_cons, ih]; rfl
theorem ints_one (l : List Int) : (ints l).all AV.one = true := by
  induction l with
  | nil => rfl
  | cons t l ih => rw [ints, List.map_cons, List.all_cons]; exact ih
theorem frz_own {σ : Sig} {b s c n : Nat} {cs : List AV} (h : σ b = some (.row cs s c)) (hn : cs.length = n * s) {σ' : Sig} (h' : σ' b = none) : Fz σ σ' (.own b s 0 n) (.sl cs n) := by
  refine .own h h' ?_
  have : (cs.drop (0 * s)).take (n * s) = cs := by simp [← hn]
  rw [this]
  exact .refl cs
def plusT (t x : Tm) (m : Int) : Tm := ⟨plusC m t.coeffs x.coeffs, IntKind.i64.wrap (t.const + IntKind.i64.wrap (m * x.const))⟩
theorem f158 (t x : Tm) (m : Int) (hl : Fits t.coeffs.length) (hx : x.coeffs.length ≤ t.coeffs.length) : PCalls Tryz.prog Γ 158 [tmA t, tmA x, int m] (tmA (plusT t x m)) := by
  have hA8 : (8 : Int) * t.coeffs.length ≤ 140737488355328 := by omega
  have hA9 : (t.coeffs.length : Int) ≤ 9223372036854775807 := by omega
  refine pcalls (ok158 Γ) fun σ => ?_
  simp only [go_sem, xQ, ↓reduceIte, xA, xM, xL, xT, xE, xN, xP, xR, xS, Tryz.f158]
  intro b6 hb6
  simp only [go_sem, xQ, ↓reduceIte, xA, xM, xL, xT, xE, xN, xP, xR, xS, hA8, hA9, ints_zeros']
  intro bs hbs
  obtain ⟨ns, hbs⟩ := un hbs
  have ns' : ¬ b6 = bs := fun e => ns e.symm
  simp only [go_sem, xQ, ↓reduceIte, xA, xM, xL, xT, xE, xN, xP, xR, xS, hA8, hA9, ints_zeros', ns, ns']
  intro b7 hb7
  obtain ⟨n7s, hb7⟩ := un hb7
  obtain ⟨n76, hb7⟩ := un hb7
  have n7s' : ¬ bs = b7 := fun e => n7s e.symm
  have n76' : ¬ b6 = b7 := fun e => n76 e.symm
  simp only [go_sem, xQ, ↓reduceIte, xA, xM, xL, xT, xE, xN, xP, xR, xS, hA8, hA9, ints_zeros', ns, ns', n7s, n7s', n76, n76']
  refine copB_all (m := t.coeffs.length) (c := t.coeffs.length) (cs := ints (List.replicate t.coeffs.length 0)) (xs := ints t.coeffs) el46 tk3 (by simp only [go_sem, xQ, ↓reduceIte, xA, xM, xL, xT, xE, xN, xP, xR, xS, n7s', ns]) (by simp [ints]) (src_slI _ t.coeffs) (ints_one _) ?_
  simp only [go_sem, xQ, ↓reduceIte, xA, xM, xL, xT, xE, xN, xP, xR, xS, hA8, hA9, ns, ns', n7s, n7s', n76, n76']
  have hp := plusC_len m t.coeffs x.coeffs
  refine SemC.loopK mixed x.coeffs.length (fun k ρ σ' ds => (ds = [] ∧ ρ 2 = int m ∧ ρ 6 = .v (.pointer (some ⟨b6, 0, none⟩)) ∧ ρ 7 = .v (.pointer (some ⟨b7, 0, none⟩)) ∧ ρ 28 = slI x.coeffs ∧ ρ 29 = int x.coeffs.length ∧ ρ 30 = int k ∧ σ' b6 = some (.row [.v (.slice none 0 0), int 0] 2 1) ∧ σ' b7 = some (.row [.own bs 1 0 t.coeffs.length, int (plusT t x m).const] 2 1) ∧ σ' bs = some (.row (ints (mix t.coeffs (plusC m t.coeffs x.coeffs) k)) 1 t.coeffs.length)) ∧ Drop σ' σ) (by kernel_rfl)
    ⟨by simp only [go_sem, xQ, ↓reduceIte, xA, xM, xL, xT, xE, xN, xP, xR, xS, n7s, n7s', n76, n76', ns, ns', mix_zero, plusT], by repeat (first | exact Drop.refl _ | assumption | refine Drop.upd ?_ (by assumption))⟩ ?_
  rintro k ρ σ' ds hk ⟨⟨rfl, h2, h6, h7, h28, h29, h30, hs6, hs7, hss⟩, hD⟩
  have hml := mix_len hp (k := k) (by omega)
  rcases get_or_end x.coeffs k hk with ⟨c, hc, hlt, hd⟩ | hk
  · obtain ⟨a, ha⟩ : ∃ a, t.coeffs[k]? = some a := ⟨t.coeffs[k]'(by omega), List.getElem?_eq_getElem _⟩
    have hg := mix_get hp (k := k) (by omega)
    rw [ha] at hg
    have hltt : k < t.coeffs.length := by omega
    have hle1 : k + 1 ≤ t.coeffs.length := by omega
    have hset := mix_set hp hltt (plusC_get m t.coeffs x.coeffs k a c ha hc)
    have hput := fun y => ints_put' (l := mix t.coeffs (plusC m t.coeffs x.coeffs) k) (k := k) (x := y) (by omega)
    simp only [go_sem, xQ, ↓reduceIte, xA, xM, xL, xT, xE, xN, xP, xR, xS, h2, h6, h7, h28, h29, h30, hs6, hs7, hss, hlt, hc, hg, hltt, hle1, hml, ints_len, ↓hput, hset, n7s, n7s', n76, n76', ns, ns']
    exact ⟨by rw [wrap_succ _ (by omega)], hD.upd hbs⟩
  · subst hk
    have hend : mix t.coeffs (plusC m t.coeffs x.coeffs) x.coeffs.length = (plusT t x m).coeffs := by
      rw [mix, ← plusC_past m t.coeffs x.coeffs x.coeffs.length (Nat.le_refl _), List.take_append_drop]
      rfl
    rw [hend] at hss
    simp only [go_sem, xQ, ↓reduceIte, xA, xM, xL, xT, xE, xN, xP, xR, xS, h2, h6, h7, h28, h29, h30, hs6, hs7, hss, Nat.lt_irrefl, n7s, n7s', n76, n76', ns, ns']
    have hlen : (plusT t x m).coeffs.length = t.coeffs.length := plusC_len m t.coeffs x.coeffs
    rw [hlen]
    refine ⟨.agg (.cons (frz_own (c := t.coeffs.length) (by rw [upd_ne _ _ _ _ ns]; exact hss) (by rw [ints_len, hlen, Nat.mul_one]) hbs) (.cons (.refl _) .nil)), hD.upd hb6⟩
theorem f157 (n : Nat) (c : Int) (hn : Fits n) : PCalls Tryz.prog Γ 157 [int n, int c] (tmA ⟨List.replicate n 0, c⟩) := by
  have hA8 : (8 : Int) * n ≤ 140737488355328 := by omega
  have hA9 : (n : Int) ≤ 9223372036854775807 := by omega
  refine pcalls (ok157 Γ) fun σ => ?_
  simp only [go_sem, xQ, ↓reduceIte, xA, xM, xL, xT, xE, xN, xP, xR, xS, Tryz.f157]
  intro b4 hb4
  simp only [go_sem, xQ, ↓reduceIte, xA, xM, xL, xT, xE, xN, xP, xR, xS, hA8, hA9, ints_zeros']
  intro bs hbs
  obtain ⟨ns, hbs⟩ := un hbs
  have ns' : ¬ b4 = bs := fun e => ns e.symm
  simp only [go_sem, xQ, ↓reduceIte, xA, xM, xL, xT, xE, xN, xP, xR, xS, hA8, hA9, ints_zeros', ns, ns', List.length_replicate]
  exact ⟨.agg (.cons (frz_own (c := n) (by simp only [upd, ns, ns', if_true, if_false, ints_zeros', Int.toNat_natCast]) (by simp [ints_len]) hbs) (.cons (.refl _) .nil)), by repeat (first | exact Drop.refl _ | assumption | refine Drop.upd ?_ (by assumption))⟩
def largeE (t : Tm) : Int := whenE (!decide (numbersE t = 0)) 4
theorem f159 (t : Tm) (hl : Fits t.coeffs.length) : PCalls Tryz.prog Γ 159 [tmA t] (int (largeE t)) := by
  refine pcalls (ok159 Γ) fun σ => ?_
  simp only [go_sem, xQ, ↓reduceIte, xA, xM, xL, xT, xE, xN, xP, xR, xS, Tryz.f159]
  refine callB_use (f173 t hl) rfl ?_
  simp only [go_sem, xQ, ↓reduceIte, xA, xM, xL, xT, xE, xN, xP, xR, xS]
  refine callB_use (f144 _ _) rfl ?_
  simp only [go_sem, xQ, ↓reduceIte, xA, xM, xL, xT, xE, xN, xP, xR, xS]
  exact retP_eq rfl
def oppT (t : Tm) (n : Int) : Tm := plusT ⟨List.replicate t.coeffs.length 0, n⟩ t (-1)
theorem f169 (t : Tm) (n : Int) (hl : Fits t.coeffs.length) : PCalls Tryz.prog Γ 169 [tmA t, int n] (tmA (oppT t n)) := by
  refine pcalls (ok169 Γ) fun σ => ?_
  simp only [go_sem, xQ, ↓reduceIte, xA, xM, xL, xT, xE, xN, xP, xR, xS, Tryz.f169]
  intro b hb
  simp only [go_sem, xQ, ↓reduceIte, xA, xM, xL, xT, xE, xN, xP, xR, xS]
  refine dcallB_use (f157 t.coeffs.length n hl) rfl ?_
  simp only [go_sem, xQ, ↓reduceIte, xA, xM, xL, xT, xE, xN, xP, xR, xS]
  refine callB_use (f158 ⟨List.replicate t.coeffs.length 0, n⟩ t (-1) (by simpa using hl) (by simp)) rfl ?_
  simp only [go_sem, xQ, ↓reduceIte, xA, xM, xL, xT, xE, xN, xP, xR, xS]
  exact retP_drop (by repeat (first | exact Drop.refl _ | assumption | refine Drop.upd ?_ (by assumption))) (rfl)
def lessT (t : Tm) (n : Int) : Tm := plusT t ⟨[], n⟩ (-1)
theorem f253 (t : Tm) (n : Int) (hl : Fits t.coeffs.length) : PCalls Tryz.prog Γ 253 [tmA t, int n] (tmA (lessT t n)) := by
  refine pcalls (ok253 Γ) fun σ => ?_
  simp only [go_sem, xQ, ↓reduceIte, xA, xM, xL, xT, xE, xN, xP, xR, xS, Tryz.f253]
  intro b hb
  simp only [go_sem, xQ, ↓reduceIte, xA, xM, xL, xT, xE, xN, xP, xR, xS]
  refine callB_fz (f158 t ⟨[], n⟩ (-1) hl (Nat.zero_le _)) (.cons (.refl _) (.cons (.agg (.cons .nil (.cons (.refl _) .nil))) (.cons (.refl _) .nil))) ?_
  simp only [go_sem, xQ, ↓reduceIte, xA, xM, xL, xT, xE, xN, xP, xR, xS]
  exact retP_drop (by repeat (first | exact Drop.refl _ | assumption | refine Drop.upd ?_ (by assumption))) (rfl)
end Go.AL

/- Opposite; copies told; same formulas. -/
set_option linter.unusedVariables false
set_option linter.unusedSimpArgs false
namespace Go.AL
open Go.Proofs
variable {Γ : Glob}
attribute [local irreducible] codeW opsW dopsW
theorem FzL.app {σ σ' : Sig} : ∀ {a a' b b' : List AV}, FzL σ σ' a a' → FzL σ σ' b b' → FzL σ σ' (a ++ b) (a' ++ b')
  | _, _, _, _, .nil, h => h
  | _, _, _, _, .cons h h', k => .cons h (FzL.app h' k)
theorem f82 (a b : Tm) (hl : Fits a.coeffs.length) : PCalls Tryz.prog Γ 82 [tmA a, tmA b] (.v (.bool (decide (a = b)))) := by
  refine pcalls (ok82 Γ) fun σ => ?_
  by_cases h : a.const = b.const
  · simp only [go_sem, xQ, ↓reduceIte, xA, xM, xL, xT, xE, xN, xP, xR, xS, Tryz.f82, h]
    refine callB_use (f38 _ _ hl) rfl ?_
    simp only [go_sem, xQ, ↓reduceIte, xA, xM, xL, xT, xE, xN, xP, xR, xS]
    exact retP_eq (by cases a; cases b; simp only at h; subst h; simp)
  · simp only [go_sem, xQ, ↓reduceIte, xA, xM, xL, xT, xE, xN, xP, xR, xS, Tryz.f82, h]
    exact retP_eq (by have : ¬ a = b := fun e => h (by rw [e]); simp [this])
end Go.AL

/- Put. -/
set_option linter.unusedVariables false
set_option linter.unusedSimpArgs false
namespace Go.AL
open Go.Proofs
variable {Γ : Glob}
attribute [local irreducible] codeW opsW dopsW
theorem ers_upd (σ : Sig) (r : Nat) : ers σ r = upd σ r none := by funext i; rw [xS]; rfl
theorem Grow.neO {σ0 σ : Sig} {s n b : Nat} {a : AV} {cs : List AV} {o : Obj} (h : Grow σ0 σ s a cs n) (hb : σ b = some (.obj o)) : ∀ s1 o m, a ≠ .own b s1 o m := fun s1 o m e => by
  rcases h with ⟨h, _⟩ | ⟨b', c, h0, h1, h2, h3⟩
  · rcases h with h | h <;> rw [h] at e <;> cases e
  · rw [h0] at e
    cases e
    rw [h2] at hb
    cases hb
end Go.AL

/- Cases: small parts. -/
set_option linter.unusedVariables false
set_option linter.unusedSimpArgs false
namespace Go.AL
open Go.Proofs
variable {Γ : Glob}
attribute [local irreducible] codeW opsW dopsW
/-- Lists of cases. -/
def slC (l : List (List Tm)) : AV := .sl (l.map slT) l.length
def slCC (l : List (List (List Tm))) : AV := .sl (l.map slC) l.length
/-- A way to take a node: its index, and whether turned. -/
def wayA (i : Int) (n : Bool) : AV := .agg [int i, .v (.bool n)]
attribute [go_sem] slC slCC wayA
theorem f255 (l : List (List Tm)) : PCalls Tryz.prog Γ 255 [slC l] (.v (.bool (decide (l.length = 0)))) := by
  refine pcalls (ok255 Γ) fun σ => ?_
  simp only [go_sem, xQ, ↓reduceIte, xA, xM, xL, xT, xE, xN, xP, xR, xS, Tryz.f255]
  exact retP_eq (by simp)
theorem f272 (l : List (List (List Tm))) (hl : Fits l.length) (fv : AV) (g : List (List Tm) → Bool) (hg : ∀ x ∈ l, DCall Tryz.prog Γ fv [slC x] (.v (.bool (g x)))) : PCalls Tryz.prog Γ 272 [slCC l, fv] (int (match l.findIdx? g with | some i => (i : Int) | none => -1)) := by
  refine pcalls (ok272 Γ) fun σ => ?_
  simp only [go_sem, xQ, ↓reduceIte, xA, xM, xL, xT, xE, xN, xP, xR, xS, Tryz.f272]
  refine SemC.loopK mixed l.length (fun k ρ σ' ds => σ' = σ ∧ ds = [] ∧ ρ 0 = slCC l ∧ ρ 1 = fv ∧ ρ 6 = slCC l ∧ ρ 7 = int l.length ∧ ρ 8 = int k ∧ l.findIdx? g = ((l.drop k).findIdx? g).map (fun i => i + k)) (by kernel_rfl) ⟨rfl, rfl, rfl, rfl, rfl, rfl, rfl, by simp⟩ ?_
  rintro k ρ σ' ds hk ⟨rfl, rfl, h0, h1, h6, h7, h8, hz⟩
  rcases get_or_end l k hk with ⟨x, hx, hlt, hd⟩ | rfl
  · rw [hd, List.findIdx?_cons] at hz
    simp only [go_sem, xQ, ↓reduceIte, xA, xM, xL, xT, xE, xN, xP, xR, xS, h0, h1, h6, h7, h8, hlt, hx]
    refine callB_d (hg x (mem_of_get hx)) ?_
    by_cases hgx : g x = true
    · simp only [hgx, if_true] at hz
      simp only [go_sem, xQ, ↓reduceIte, xA, xM, xL, xT, xE, xN, xP, xR, xS, h0, h1, h6, h7, h8, hlt, hx, hgx]
      exact retP_eq (by rw [hz]; simp)
    · simp only [hgx, if_false] at hz
      simp only [go_sem, xQ, ↓reduceIte, xA, xM, xL, xT, xE, xN, xP, xR, xS, h0, h1, h6, h7, h8, hlt, hx, hgx]
      refine ⟨by rw [wrap_succ _ (by omega)], ?_⟩
      rw [hz]
      simp [Option.map_map, Function.comp_def, Nat.add_assoc, Nat.add_comm 1]
  · rw [List.drop_length] at hz
    simp only [go_sem, xQ, ↓reduceIte, xA, xM, xL, xT, xE, xN, xP, xR, xS, h0, h1, h6, h7, h8, Nat.lt_irrefl]
    exact retP_eq (by rw [hz]; simp)
theorem f254 (l : List (List (List Tm))) (hl : Fits l.length) (fv : AV) (g : List (List Tm) → Bool) (hg : ∀ x ∈ l, DCall Tryz.prog Γ fv [slC x] (.v (.bool (g x)))) : PCalls Tryz.prog Γ 254 [slCC l, fv] (.v (.bool (l.any g))) := by
  refine pcalls (ok254 Γ) fun σ => ?_
  simp only [go_sem, xQ, ↓reduceIte, xA, xM, xL, xT, xE, xN, xP, xR, xS, Tryz.f254]
  refine callB_use (f272 l hl fv g hg) rfl ?_
  simp only [go_sem, xQ, ↓reduceIte, xA, xM, xL, xT, xE, xN, xP, xR, xS]
  refine retP_eq ?_
  have : l.any g = (l.findIdx? g).isSome := by rw [List.findIdx?_isSome]
  rw [this]
  cases l.findIdx? g with
  | none => simp
  | some i => simp
/-- How a node is taken in a way. -/
def kindW (n : Nd) (b : Bool) : Int := if b = true ∧ (n.kind = 3 ∨ n.kind = 4) then 7 - n.kind else n.kind
theorem f222 (f : Fm) (i : Nat) (b : Bool) (n : Nd) (hn : f.nodes[i]? = some n) : PCalls Tryz.prog Γ 222 [fmA f, wayA i b] (int (kindW n b)) := by
  have hlt := lt_of_getElem? hn
  have e43 : ((4 : Int) = 3) = False := eq_false (by decide)
  refine pcalls (ok222 Γ) fun σ => ?_
  cases b
  · simp only [go_sem, xQ, ↓reduceIte, xA, xM, xL, xT, xE, xN, xP, xR, xS, Tryz.f222, hlt, ↓nd_get0 hn]
    exact retP_eq (by simp [kindW])
  · by_cases h3 : n.kind = 3
    · simp only [go_sem, xQ, ↓reduceIte, xA, xM, xL, xT, xE, xN, xP, xR, xS, Tryz.f222, hlt, ↓nd_get0 hn, h3]
      exact retP_eq (by simp [kindW, h3]; rfl)
    · by_cases h4 : n.kind = 4
      · simp only [go_sem, xQ, ↓reduceIte, xA, xM, xL, xT, xE, xN, xP, xR, xS, Tryz.f222, hlt, ↓nd_get0 hn, h3, h4, e43]
        exact retP_eq (by simp [kindW, h4]; rfl)
      · simp only [go_sem, xQ, ↓reduceIte, xA, xM, xL, xT, xE, xN, xP, xR, xS, Tryz.f222, hlt, ↓nd_get0 hn, h3, h4]
        exact retP_eq (by simp [kindW, h3, h4])
theorem f223 (f : Fm) (i : Int) (b : Bool) : PCalls Tryz.prog Γ 223 [fmA f, wayA i b] (.fn (.func 252) [] [.pp (fmC f) 0, .pp [int i, .v (.bool b)] 0]) := by
  refine pcalls (ok223 Γ) fun σ => ?_
  simp only [go_sem, xQ, ↓reduceIte, xA, xM, xL, xT, xE, xN, xP, xR, xS, Tryz.f223]
/-- The ways to take what a node is made of. -/
def waysX (n : Nd) (b : Bool) : List AV := n.kids.map fun k => wayA k (b != decide (n.kind = 2))
/-- The node that is gone through. -/
def ownD (n : Nd) : Blk → Prop := fun x => x = .row (ndC n) 4 1
theorem f252 (f : Fm) (i : Nat) (b : Bool) (n : Nd) (hn : f.nodes[i]? = some n) (hl : Fits n.kids.length) : IterE Tryz.prog Γ (ownD n) noD 252 [] [.pp (fmC f) 0, .pp [int i, .v (.bool b)] 0] (fun _ => True) (waysX n b) := by
  have hlt0 := lt_of_getElem? hn
  intro yv σ0 I K _ hI hKs h0 hy hK
  refine acalls (ok252 Γ) ?_
  simp only [List.nil_append, List.cons_append]
  simp only [go_sem, xQ, ↓reduceIte, xA, xM, xL, xT, xE, xN, xP, xR, xS, Tryz.f252, hlt0, ↓nd_part hn]
  intro b4 hb4
  simp only [go_sem, xQ, ↓reduceIte, xA, xM, xL, xT, xE, xN, xP, xR, xS]
  refine SemC.loopK mixed n.kids.length (fun k ρ σ' ds => ds = [] ∧ ρ 0 = yv ∧ ρ 2 = .pp [int i, .v (.bool b)] 0 ∧ ρ 4 = .v (.pointer (some ⟨b4, 0, none⟩)) ∧ ρ 14 = slI n.kids ∧ ρ 15 = int n.kids.length ∧ ρ 16 = int k ∧ σ' b4 = some (.row (ndC n) 4 1) ∧ I k σ') (by kernel_rfl) ⟨rfl, rfl, rfl, rfl, rfl, rfl, rfl, by simp only [go_sem, xQ, ↓reduceIte, xA, xM, xL, xT, xE, xN, xP, xR, xS], by rw [upd_upd]; exact hI 0 _ _ _ (.inl hb4) h0⟩ ?_
  rintro k ρ σ' ds hk ⟨rfl, h0', h2, h4, h14, h15, h16, hs4, hIk⟩
  rcases get_or_end n.kids k hk with ⟨x, hx, hlt, hd⟩ | hk
  · have hx' : (waysX n b)[k]? = some (wayA x (b != decide (n.kind = 2))) := by simp [waysX, hx]
    simp only [go_sem, xQ, ↓reduceIte, xA, xM, xL, xT, xE, xN, xP, xR, xS, h0', h2, h4, h14, h15, h16, hlt, hx, hs4]
    refine callB_mono (fun r σ2 h => ?_) (hy k _ _ hx' hIk)
    rcases h with ⟨hkp, ⟨rfl, h⟩ | ⟨rfl, h⟩⟩
    · simp only [go_sem, xQ, ↓reduceIte, xA, xM, xL, xT, xE, xN, xP, xR, xS, h0', h2, h4, h14, h15, h16]
      exact ⟨hlt, by rw [wrap_succ _ (by omega)], hkp b4 _ hs4 rfl, h⟩
    · simp only [go_sem, xQ, ↓reduceIte, xA, xM, xL, xT, xE, xN, xP, xR, xS, h0', h2, h4, h14, h15, h16]
      exact h
  · subst hk
    simp only [go_sem, xQ, ↓reduceIte, xA, xM, xL, xT, xE, xN, xP, xR, xS, h0', h2, h4, h14, h15, h16, Nat.lt_irrefl]
    exact hK _ (by rw [waysX, List.length_map]; exact hIk)
end Go.AL

/- Maps whose keys are pairs of an integer and a bool (ways): look-ups, writes. -/
set_option linter.unusedVariables false
set_option linter.unusedSimpArgs false
namespace Go.AL
open Go.Proofs
abbrev WayT := Int × Bool
def wayV (k : WayT) : Value := .agg #[.int .i64 k.1, .bool k.2]
def wayK (k : WayT) : AV := .agg [.v (.int .i64 k.1), .v (.bool k.2)]
def mapW (l : List (WayT × AV)) : List (AV × AV) := l.map fun p => (wayK p.1, p.2)
def getW : List (WayT × AV) → WayT → Option AV
  | [], _ => none
  | p :: l, k => if k = p.1 then some p.2 else getW l k
theorem rep_way {w : World} {σ : Sig} {k : WayT} {v : Value} (h : Rep w σ (wayK k) v) : v = wayV k := by
  unfold wayK at h
  cases h with | agg h =>
  cases h with | cons h1 h => cases h with | cons h2 h => cases h with | nil =>
  cases h1; cases h2; rfl
theorem way_rep {w : World} {σ : Sig} {k : WayT} : Rep w σ (wayK k) (wayV k) := .agg (.cons (.v _) (.cons (.v _) .nil))
/-- A type of keys that is told apart by the two parts. -/
structure WayKey (P : Program) (k : TypeId) : Prop where
  und : ∃ fs, P.underlying k = some (.struct fs)
  eq : ∀ (w : World) (a b : WayT), (Op.equal k (wayV a) (wayV b)).run P w = .ok (decide (a = b)) w
  chk : ∀ (w : World) (em : Bool) (a : WayT), (Instr.checkKey em 10000 k (wayV a)).run P w = .ok () w
theorem ask_way {P : Program} {k : TypeId} (hk : WayKey P k) {w : World} {σ : Sig} (a : WayT) : ∀ (l : List (WayT × AV)) (ents : List MapEntry) (i : Nat), Reps w σ (l.map fun p => wayK p.1) (ents.map (·.key)) → Reps w σ (l.map (·.2)) (ents.map (·.val)) →
    match getW l a with
    | none => (Instr.findAsking k (wayV a) ents i).run P w = .ok none w
    | some x => ∃ j v, (Instr.findAsking k (wayV a) ents i).run P w = .ok (some (j, v)) w ∧ Rep w σ x v
  | [], [], i, _, _ => by simp [getW, Instr.findAsking]
  | [], _ :: _, i, h, _ => by cases h
  | _ :: _, [], i, h, _ => by cases h
  | p :: l, e :: ents, i, h, h2 => by
    cases h with | cons h hs =>
    cases h2 with | cons h2 hs2 =>
    have ih := ask_way hk a l ents (i + 1) hs hs2
    have hkey := rep_way h
    by_cases ha : a = p.1
    · simp only [getW, if_pos ha]
      exact ⟨i, e.val, by simp [Instr.findAsking, hkey, hk.eq, ha], h2⟩
    · simp only [getW, if_neg ha]
      have hf : (Instr.findAsking k (wayV a) (e :: ents) i).run P w = (Instr.findAsking k (wayV a) ents (i + 1)).run P w := by simp [Instr.findAsking, hkey, hk.eq, ha]
      rw [hf]
      exact ih
theorem find_way {P : Program} {k : TypeId} (hk : WayKey P k) {w : World} {σ : Sig} (a : WayT) (l : List (WayT × AV)) (ents : List MapEntry) (h : Reps w σ (l.map fun p => wayK p.1) (ents.map (·.key))) (h2 : Reps w σ (l.map (·.2)) (ents.map (·.val))) :
    match getW l a with
    | none => (Instr.findKey k (wayV a) ents).run P w = .ok none w
    | some x => ∃ j v, (Instr.findKey k (wayV a) ents).run P w = .ok (some (j, v)) w ∧ Rep w σ x v := by
  obtain ⟨fs, hu⟩ := hk.und
  have := ask_way hk a l ents 0 h h2
  cases ents with
  | nil =>
    cases l with
    | nil => simp [getW, Instr.findKey, run_underlying hu, Instr.findNow]
    | cons p l => cases h
  | cons e ents =>
    have hf : (Instr.findKey k (wayV a) (e :: ents)).run P w = (Instr.findAsking k (wayV a) (e :: ents) 0).run P w := by
      simp [Instr.findKey, run_underlying hu, Instr.findNow, Instr.sameNow]
    rw [hf]
    exact this
section
variable {P : Program} {Γ : Glob} {σ : Sig} {t k e : TypeId} {b : Nat} {l : List (WayT × AV)} {a : WayT} {K : AV → Sig → Prop}
theorem lookB_way (ht : P.underlying t = some (.map k e)) (hk : WayKey P k) {z : AV} (he : ∀ (w : World) (σ : Sig), ∃ v, (zeroValue e).run P w = .ok v w ∧ Rep w σ z v) (hb : σ b = some (.map (mapW l)))
    (hK : match getW l a with | some x => K (.tup [x, .v (.bool true)]) σ | none => K (.tup [z, .v (.bool false)]) σ) : lookB P Γ σ t true (.v (.map (some b))) (wayK a) K := by
  intro w vs rel hv
  cases hv with | cons h1 hv => cases hv with | cons h2 hv => cases hv with | nil =>
  cases h1
  obtain rfl := rep_way h2
  obtain ⟨_, ents, clock, hh, hks, hvs⟩ := rel.blk b _ hb
  have hf := find_way hk a l ents.toList (by simpa [mapW, Function.comp_def] using hks) (by simpa [mapW, Function.comp_def] using hvs)
  have hg : (getObj b).run P w = .ok (.map ents clock) w := by simp [getObj, Sem.run, hh]
  cases hl : getW l a with
  | some x =>
    rw [hl] at hf hK
    obtain ⟨j, v, hj, hr⟩ := hf
    refine ⟨.tuple #[v, .bool true], w, _, σ, ?_, .tup (.cons hr (.cons (.v _) .nil)), rel, Ext.refl _ _, hK⟩
    simp [Instr.lookup, run_underlying ht, hg, hk.chk, hj]
  | none =>
    rw [hl] at hf hK
    obtain ⟨v, hz, hr⟩ := he w σ
    refine ⟨.tuple #[v, .bool false], w, _, σ, ?_, .tup (.cons hr (.cons (.v _) .nil)), rel, Ext.refl _ _, hK⟩
    simp [Instr.lookup, run_underlying ht, hg, hk.chk, hf, hz]
theorem rlookB_way (ht : P.underlying t = some (.map k e)) (hk : WayKey P k) {z : AV} (he : ∀ (w : World) (σ : Sig), ∃ v, (zeroValue e).run P w = .ok v w ∧ Rep w σ z v) (hb : σ b = some (.map (mapW l)))
    (hK : match getW l a with | some x => K (.tup [x, .v (.bool true)]) σ | none => K (.tup [z, .v (.bool false)]) σ) : rlookB P Γ σ t true (.v (.map (some b))) (wayK a) K := by
  cases hl : getW l a with
  | some x =>
    rw [hl] at hK
    exact ⟨_, fun σ' hs K' hK' => lookB_way ht hk he (hs b _ hb) (by rw [hl]; exact hK'), hK⟩
  | none =>
    rw [hl] at hK
    exact ⟨_, fun σ' hs K' hK' => lookB_way ht hk he (hs b _ hb) (by rw [hl]; exact hK'), hK⟩
theorem mupB_way (ht : P.underlying t = some (.map k e)) (hk : WayKey P k) (hb : σ b = some (.map (mapW l))) (hn : getW l a = none) {x : AV}
    (hK : K (.v undef) (upd σ b (some (.map (mapW (l ++ [(a, x)])))))) : mupB P Γ σ t (.v (.map (some b))) (wayK a) x K := by
  intro w vs rel hv
  cases hv with | cons h1 hv => cases hv with | cons h2 hv => cases hv with | cons h3 hv => cases hv with | nil =>
  cases h1
  obtain rfl := rep_way h2
  rename_i v
  obtain ⟨hbl, ents, clock, hh, hks, hvs⟩ := rel.blk b _ hb
  have hf := find_way hk a l ents.toList (by simpa [mapW, Function.comp_def] using hks) (by simpa [mapW, Function.comp_def] using hvs)
  rw [hn] at hf
  have hg : (getObj b).run P w = .ok (.map ents clock) w := by simp [getObj, Sem.run, hh]
  let o : Obj := .map (ents.push { key := wayV a, val := v, born := clock }) (clock + 1)
  have hs : (setObj b o).run P w = .ok () (w.putObj b o) := by simp [setObj, Sem.run, hh, World.putObj, o]
  have hW : Wr w (w.putObj b o) b := ⟨World.putObj_size, fun k hk => World.putObj_heap_other hk, rfl, rfl, rfl⟩
  have eW := Ext.write (σ := σ) (x := .map (mapW (l ++ [(a, x)]))) hW ⟨_, hb, fun _ _ _ e => by cases e⟩
  have rW := rel.write (x := .map (mapW (l ++ [(a, x)]))) hW ⟨_, hb, fun _ _ _ e => by cases e⟩
    ⟨_, _, World.putObj_heap_same hbl, by
      have := (hks.ext eW).append (.cons (way_rep (k := a)) .nil)
      simpa [mapW, o] using this, by
      have := (hvs.ext eW).append (.cons (h3.ext eW) .nil)
      simpa [mapW, o] using this⟩
  refine ⟨undef, _, _, _, ?_, .v _, rW, eW, hK⟩
  simp [Instr.mapUpdate, run_underlying ht, hg, hk.chk, hf]
  simp [hs, o]
end
section
variable {P : Program} {t : TypeId} {f1 f2 : Field} {z1 z2 : List AV}
theorem eq_strW {w : World} {n : Nat} {a c : Int} {b d : Bool} (h : P.underlying t = some (.struct #[f1, f2])) (hs : P.stoodInHeld t = false)
    (hn1 : f1.name ≠ "_") (hn2 : f2.name ≠ "_") (ho1 : f1.offset = 0) (ho2 : f2.offset = 1) (hk1 : tkOf P f1.type = some ⟨false, 1, z1⟩) (hk2 : tkOf P f2.type = some ⟨false, 1, z2⟩)
    (hi1 : ∀ (a b : Int), (Op.equalIn n f1.type (.int .i64 a) (.int .i64 b)).run P w = .ok (a == b) w) (hi2 : ∀ (a b : Bool), (Op.equalIn n f2.type (.bool a) (.bool b)).run P w = .ok (a == b) w) :
    (Op.equalIn (n + 1) t (.agg #[.int .i64 a, .bool b]) (.agg #[.int .i64 c, .bool d])).run P w = .ok ((a == c) && (b == d)) w := by
  have hagg1 := run_isAgg_tk hk1
  have hagg2 := run_isAgg_tk hk2
  cases h1 : (a == c) <;> cases h2 : (b == d) <;>
    simp [Op.equalIn, run_underlying h, hs, hagg1, hagg2, part, hi1, hi2, h1, h2, hn1, hn2, ho1, ho2]
theorem chk_strW {w : World} {em : Bool} {n : Nat} {a : Int} {b : Bool} (h : P.underlying t = some (.struct #[f1, f2]))
    (hn1 : f1.name ≠ "_") (hn2 : f2.name ≠ "_") (ho1 : f1.offset = 0) (ho2 : f2.offset = 1) (hk1 : tkOf P f1.type = some ⟨false, 1, z1⟩) (hk2 : tkOf P f2.type = some ⟨false, 1, z2⟩)
    (hi1 : ∀ a : Int, (Instr.checkKey em n f1.type (.int .i64 a)).run P w = .ok () w) (hi2 : ∀ a : Bool, (Instr.checkKey em n f2.type (.bool a)).run P w = .ok () w) :
    (Instr.checkKey em (n + 1) t (.agg #[.int .i64 a, .bool b])).run P w = .ok () w := by
  have hagg1 := run_isAgg_tk hk1
  have hagg2 := run_isAgg_tk hk2
  simp [Instr.checkKey, run_underlying h, hagg1, hagg2, part, hi1, hi2, hn1, hn2, ho1, ho2]
theorem chk_int {w : World} {em : Bool} {n : Nat} {a : Int} (h : P.underlying t = some (.int .i64)) : (Instr.checkKey em (n + 1) t (.int .i64 a)).run P w = .ok () w := by simp [Instr.checkKey, run_underlying h]
theorem chk_bool {w : World} {em : Bool} {n : Nat} {a : Bool} (h : P.underlying t = some .bool) : (Instr.checkKey em (n + 1) t (.bool a)).run P w = .ok () w := by simp [Instr.checkKey, run_underlying h]
theorem wayKey (h : P.underlying t = some (.struct #[f1, f2])) (hs : P.stoodInHeld t = false)
    (hn1 : f1.name ≠ "_") (hn2 : f2.name ≠ "_") (ho1 : f1.offset = 0) (ho2 : f2.offset = 1) (hk1 : tkOf P f1.type = some ⟨false, 1, z1⟩) (hk2 : tkOf P f2.type = some ⟨false, 1, z2⟩)
    (he1 : P.underlying f1.type = some (.int .i64)) (he2 : P.underlying f2.type = some .bool) : WayKey P t := by
  refine ⟨⟨_, h⟩, fun w a b => ?_, fun w em a => chk_strW (n := 9999) h hn1 hn2 ho1 ho2 hk1 hk2 (fun a => chk_int (n := 9998) he1) (fun a => chk_bool (n := 9998) he2)⟩
  have e : decide (a = b) = ((a.1 == b.1) && (a.2 == b.2)) := by
    obtain ⟨i, x⟩ := a
    obtain ⟨j, y⟩ := b
    by_cases h1 : i = j <;> by_cases h2 : x = y <;> simp [h1, h2]
  rw [e]
  exact eq_strW (n := 9999) h hs hn1 hn2 ho1 ho2 hk1 hk2 (fun a b => run_equalIn_int w 9998 _ .i64 _ a b he1) (fun a b => run_equalIn_bool w 9998 _ a b he2)
end
theorem way229 : WayKey Tryz.prog 229 := wayKey (fieldsOf_some fs229) (by kernel_rfl) (by decide) (by decide) rfl rfl tk3 tk4 us3 us4
end Go.AL

/- Cases: counting. -/
set_option linter.unusedVariables false
set_option linter.unusedSimpArgs false
namespace Go.AL
open Go.Proofs
variable {Γ : Glob}
attribute [local irreducible] codeW opsW dopsW
/-! ### Counts of cases, told without a memory -/
def outC (k : Int) (b : Bool) (sub : List (Int × Int)) : Int × Int :=
  if k = 0 then (1, 1) else if k = 1 then (if b then (2, 1) else (1, 2)) else if k = 2 then sub.getLastD (1, 0)
  else if k = 3 then (if sub.any (fun n => decide (n = (0, 0))) then (0, 0) else sub.foldl (fun o n => (min (o.1 * n.1) 65, o.2 + n.2)) (1, 0))
  else if k = 4 then sub.foldl (fun o n => (min (o.1 + n.1) 65, max o.2 n.2)) (0, 0) else (1, 0)
def cntF (l : List Nd) : Nat → WayT → Int × Int
  | 0, _ => (0, 0)
  | fuel + 1, w => match l[w.1.toNat]? with
    | none => (0, 0)
    | some n =>
      let o := outC (kindW n w.2) w.2 (n.kids.map fun x => cntF l fuel (x, w.2 != decide (n.kind = 2)))
      (o.1, min o.2 33)
def cntW (l : List Nd) (w : WayT) : Int × Int := cntF l (w.1.toNat + 1) w
/-- The ways that are gone through. -/
def reachFX (l : List Nd) : Nat → WayT → List WayT
  | 0, _ => []
  | fuel + 1, w => match l[w.1.toNat]? with
    | none => []
    | some n => w :: n.kids.flatMap fun x => reachFX l fuel (x, w.2 != decide (n.kind = 2))
def reachW (l : List Nd) (w : WayT) : List WayT := reachFX l (w.1.toNat + 1) w
def badC (c : Int × Int) : Bool := decide (64 < c.1) || decide (32 < c.2)
def badW (l : List Nd) (w : WayT) : Bool := (reachW l w).any fun v => badC (cntW l v)
def cntA (c : Int × Int) : AV := .agg [int c.1, int c.2]
/-- What the memory of counts may be. -/
def MemoC (l : List Nd) (m : List (WayT × AV)) (bad : Bool) : Prop := ∀ p ∈ m, p.2 = cntA (cntW l p.1) ∧ (badW l p.1 = true → bad = true)
def KidsDown (l : List Nd) : Prop := ∀ (k : Nat) (n : Nd), l[k]? = some n → ∀ x ∈ n.kids, 0 ≤ x ∧ x < (k : Int)
theorem cntF_st {l : List Nd} (hd : KidsDown l) : ∀ (fuel fuel' : Nat) (w : WayT), w.1.toNat < fuel → w.1.toNat < fuel' → cntF l fuel w = cntF l fuel' w
  | 0, _, _, h, _ => by omega
  | _ + 1, 0, _, _, h => by omega
  | fuel + 1, fuel' + 1, w, h, h' => by
    rw [cntF, cntF]
    cases hn : l[w.1.toNat]? with
    | none => rfl
    | some n =>
      have e : (n.kids.map fun x => cntF l fuel (x, w.2 != decide (n.kind = 2))) = n.kids.map fun x => cntF l fuel' (x, w.2 != decide (n.kind = 2)) := by
        refine List.map_congr_left fun x hx => ?_
        have := hd _ _ hn x hx
        exact cntF_st hd fuel fuel' _ (by simp only; omega) (by simp only; omega)
      simp only [e]
theorem cntW_eq {l : List Nd} (hd : KidsDown l) {i : Nat} {n : Nd} (hn : l[i]? = some n) (b : Bool) : cntW l ((i : Int), b) = ((outC (kindW n b) b (n.kids.map fun x => cntW l (x, b != decide (n.kind = 2)))).1, min (outC (kindW n b) b (n.kids.map fun x => cntW l (x, b != decide (n.kind = 2)))).2 33) := by
  have e : (n.kids.map fun x => cntF l i (x, b != decide (n.kind = 2))) = n.kids.map fun x => cntW l (x, b != decide (n.kind = 2)) := by
    refine List.map_congr_left fun x hx => ?_
    have := hd _ _ hn x hx
    exact cntF_st hd _ _ _ (by simp only; omega) (by simp only; omega)
  rw [cntW]
  simp only [Int.toNat_natCast, cntF, hn, e]
theorem reachF_st {l : List Nd} (hd : KidsDown l) : ∀ (fuel fuel' : Nat) (w : WayT), w.1.toNat < fuel → w.1.toNat < fuel' → reachFX l fuel w = reachFX l fuel' w
  | 0, _, _, h, _ => by omega
  | _ + 1, 0, _, _, h => by omega
  | fuel + 1, fuel' + 1, w, h, h' => by
    rw [reachFX, reachFX]
    cases hn : l[w.1.toNat]? with
    | none => rfl
    | some n =>
      have e : (n.kids.flatMap fun x => reachFX l fuel (x, w.2 != decide (n.kind = 2))) = n.kids.flatMap fun x => reachFX l fuel' (x, w.2 != decide (n.kind = 2)) := by
        rw [List.flatMap_def, List.flatMap_def]
        congr 1
        refine List.map_congr_left fun x hx => ?_
        have := hd _ _ hn x hx
        exact reachF_st hd fuel fuel' _ (by simp only; omega) (by simp only; omega)
      simp only [e]
theorem badW_eq {l : List Nd} (hd : KidsDown l) {i : Nat} {n : Nd} (hn : l[i]? = some n) (b : Bool) : badW l ((i : Int), b) = (badC (cntW l ((i : Int), b)) || n.kids.any fun x => badW l (x, b != decide (n.kind = 2))) := by
  have e : (n.kids.flatMap fun x => reachFX l i (x, b != decide (n.kind = 2))) = n.kids.flatMap fun x => reachW l (x, b != decide (n.kind = 2)) := by
    rw [List.flatMap_def, List.flatMap_def]
    congr 1
    refine List.map_congr_left fun x hx => ?_
    have := hd _ _ hn x hx
    exact reachF_st hd _ _ _ (by simp only; omega) (by simp only; omega)
  have r : reachW l ((i : Int), b) = ((i : Int), b) :: n.kids.flatMap fun x => reachW l (x, b != decide (n.kind = 2)) := by
    rw [reachW]
    simp only [Int.toNat_natCast, reachFX, hn, e]
  rw [badW, r, List.any_cons, List.any_flatMap]
  rfl
theorem MemoC.add {l : List Nd} {m : List (WayT × AV)} {bad bad' : Bool} {w : WayT} (h : MemoC l m bad) (hb : bad = true → bad' = true) (hw : badW l w = true → bad' = true) : MemoC l (m ++ [(w, cntA (cntW l w))]) bad' := by
  intro p hp
  rcases List.mem_append.1 hp with hp | hp
  · exact ⟨(h p hp).1, fun hh => hb ((h p hp).2 hh)⟩
  · rw [List.mem_singleton] at hp
    subst hp
    exact ⟨rfl, hw⟩
def cntRow (f : Fm) (bm : Nat) (bad : Bool) : Blk := .row [int f.vars, slN f.nodes, .v (.map (some bm)), .v (.bool bad)] 4 1
/-! ### Bounds -/
def stepA (o n : Int × Int) : Int × Int := (min (o.1 * n.1) 65, o.2 + n.2)
def stepO (o n : Int × Int) : Int × Int := (min (o.1 + n.1) 65, max o.2 n.2)
/-! ### What stays -/
/-- All blocks but these are as they were. -/
def Frm (bc bm : Nat) (σ σ' : Sig) : Prop := ∀ x y, x ≠ bc → x ≠ bm → σ x = some y → σ' x = some y
theorem Frm.refl {bc bm : Nat} {σ : Sig} : Frm bc bm σ σ := fun _ _ _ _ h => h
theorem Frm.new {bc bm : Nat} {σ σ' : Sig} {b : Nat} (h : Frm bc bm σ σ') (hb : σ b = none) (y : Option Blk) : Frm bc bm σ (upd σ' b y) := fun x z h1 h2 h3 => by
  rw [upd_ne _ _ _ _ (fun e => by rw [e, hb] at h3; cases h3)]
  exact h x z h1 h2 h3
theorem Frm.fresh {bc bm : Nat} {σ σ' : Sig} {b : Nat} (h : Frm bc bm σ σ') (hb : σ' b = none) (y : Option Blk) : Frm bc bm σ (upd σ' b y) := fun x z h1 h2 h3 => by
  have := h x z h1 h2 h3
  rw [upd_ne _ _ _ _ (fun e => by rw [e, hb] at this; cases this)]
  exact this
theorem Frm.own {bc bm : Nat} {σ σ' : Sig} {b : Nat} (h : Frm bc bm σ σ') (hb : b = bc ∨ b = bm) (y : Option Blk) : Frm bc bm σ (upd σ' b y) := fun x z h1 h2 h3 => by
  rw [upd_ne _ _ _ _ (fun e => by rcases hb with hb | hb <;> rw [hb] at e <;> contradiction)]
  exact h x z h1 h2 h3
theorem Frm.trans {bc bm : Nat} {σ σ1 σ2 : Sig} (h : Frm bc bm σ σ1) (h' : Frm bc bm σ1 σ2) : Frm bc bm σ σ2 := fun x y h1 h2 h3 => h' x y h1 h2 (h x y h1 h2 h3)
theorem Frm.closed {bc bm : Nat} {σ σ0 : Sig} (h0 : ∀ b, σ b = none → σ0 b = none) : Closed noD σ fun σ' => Frm bc bm σ0 σ' := fun σ' b z hb h x y h1 h2 h3 => by
  rw [upd_ne]
  · exact h x y h1 h2 h3
  · intro e
    subst e
    have := h x y h1 h2 h3
    rcases hb with hb | ⟨hb, _⟩ | ⟨w, hb, hw⟩
    · rw [this] at hb; cases hb
    · rw [h0 x hb] at h3; cases h3
    · exact hw
/-- The records, and the row that is gone through, stay in a kid's call. -/
theorem Frm.keep {n : Nd} {bc bm : Nat} {σ σ' : Sig} {cs : List AV} {s c : Nat} {es : List (AV × AV)} (hbc : σ bc = some (.row cs s c)) (hnc : ¬ ownD n (.row cs s c)) (hbm : σ bm = some (.map es)) (h : Frm bc bm σ σ') : Keep (KD (ownD n)) σ σ' := fun b y hb hy => by
  refine h b y ?_ ?_ hb
  · intro e
    rw [e, hbc] at hb
    cases hb
    rcases hy with hy | hy
    · exact hy
    · exact hnc hy
  · intro e
    rw [e, hbm] at hb
    cases hb
    rcases hy with hy | hy
    · exact hy
    · cases hy
theorem own_row {n : Nd} {cs : List AV} {s c : Nat} (h : s ≠ 4) : ¬ ownD n (.row cs s c) := fun e => by
  have e : Blk.row cs s c = .row (ndC n) 4 1 := e
  injection e with _ e2 _
  exact h e2
theorem own_cnt {n : Nd} {f : Fm} {bm : Nat} {bad : Bool} : ¬ ownD n (cntRow f bm bad) := fun e => by
  have e : cntRow f bm bad = .row (ndC n) 4 1 := e
  simp [cntRow, ndC, int] at e
theorem own_ctl {n : Nd} : ∀ x, ownD n x → ¬ Ctl x := fun x h k => by rw [h] at k; exact k
/-! ### What stays true of the memory, kid by kid -/
structure Mid (l : List Nd) (i : Nat) (n : Nd) (b : Bool) (m : List (WayT × AV)) (bad : Bool) (k : Nat) (m1 : List (WayT × AV)) (bad1 : Bool) : Prop where
  memo : MemoC l m1 bad1
  up : bad = true → bad1 = true
  kids : ∀ x ∈ n.kids.take k, badW l (x, b != decide (n.kind = 2)) = true → bad1 = true
  why : bad1 = true → bad = true ∨ (n.kids.take k).any (fun x => badW l (x, b != decide (n.kind = 2))) = true
  new : ∀ p ∈ m1, p ∈ m ∨ p.1.1 < (i : Int)
theorem Mid.zero {l : List Nd} {i : Nat} {n : Nd} {b : Bool} {m : List (WayT × AV)} {bad : Bool} (h : MemoC l m bad) : Mid l i n b m bad 0 m bad :=
  ⟨h, fun h => h, fun x hx => by simp at hx, fun h => .inl h, fun p hp => .inl hp⟩
theorem Mid.succ {l : List Nd} {i : Nat} {n : Nd} {b : Bool} {m m1 m2 : List (WayT × AV)} {bad bad1 bad2 : Bool} {k : Nat} {x : Int} (h : Mid l i n b m bad k m1 bad1) (hx : n.kids[k]? = some x) (hxi : x < (i : Int)) (h1 : MemoC l m2 bad2) (h2 : bad1 = true → bad2 = true) (h3 : badW l (x, b != decide (n.kind = 2)) = true → bad2 = true) (h4 : bad2 = true → bad1 = true ∨ badW l (x, b != decide (n.kind = 2)) = true) (h5 : ∀ p ∈ m2, p ∈ m1 ∨ p.1.1 ≤ x) : Mid l i n b m bad (k + 1) m2 bad2 := by
  have e : n.kids.take (k + 1) = n.kids.take k ++ [x] := take_succ hx
  refine ⟨h1, fun hb => h2 (h.up hb), fun y hy hb => ?_, fun hb => ?_, fun p hp => ?_⟩
  · rw [e, List.mem_append, List.mem_singleton] at hy
    rcases hy with hy | rfl
    · exact h2 (h.kids y hy hb)
    · exact h3 hb
  · rw [e, List.any_append]
    rcases h4 hb with hb | hb
    · rcases h.why hb with hb | hb
      · exact .inl hb
      · exact .inr (by rw [hb, Bool.true_or])
    · exact .inr (by simp [hb])
  · rcases h5 p hp with hp | hp
    · exact h.new p hp
    · exact .inr (by omega)
end Go.AL

/- Cases: the walk that counts. -/
set_option linter.unusedVariables false
set_option linter.unusedSimpArgs false
namespace Go.AL
open Go.Proofs
variable {Γ : Glob}
attribute [local irreducible] codeW opsW dopsW
theorem waysX_get {n : Nd} {b : Bool} {k : Nat} {x : AV} (h : (waysX n b)[k]? = some x) : ∃ c, n.kids[k]? = some c ∧ x = wayA c (b != decide (n.kind = 2)) := by
  rw [waysX, List.getElem?_map] at h
  cases hn : n.kids[k]? with
  | none => rw [hn] at h; cases h
  | some c => rw [hn] at h; exact ⟨c, rfl, (Option.some.inj h).symm⟩
theorem waysX_len {n : Nd} {b : Bool} : (waysX n b).length = n.kids.length := by simp [waysX]
theorem hdown {f : Fm} (hok : ∀ k n, f.nodes[k]? = some n → NodeOk n k f.vars) : KidsDown f.nodes := fun k n hn x hx => by
  have h := hok k n hn
  by_cases h1 : n.kind ≤ 1
  · rw [(h.term h1).2.2] at hx
    cases hx
  · exact (h.form (by omega)).2.2.2 x hx
end Go.AL

/- append of so many new elements onto nil: a row without told cells, and room. -/
set_option linter.unusedVariables false
set_option linter.unusedSimpArgs false
namespace Go.AL
section
variable {P : Program} {Γ : Glob} {σ : Sig} {w : World}
/-- What such an append asks of the types. -/
structure AppM (P : Program) (t0 t1 : TypeId) (k : TK) (bytes : Nat) : Prop where
  slice : ∃ e i, P.underlying t0 = some (.slice e) ∧ tkOf P e = some k ∧ P.info? e = some i ∧ i.bytes = bytes
  src : P.underlying t1 = some (.int .i64)
  size : k.size ≠ 0
  zero : k.zero.length = k.size
  pos : 0 < bytes
theorem append_made {t0 t1 ty : TypeId} {k : TK} {bytes : Nat} (hT : AppM P t0 t1 k bytes) {n : Nat} (hsum : n * bytes ≤ 140737488355328) (h0 : 0 < n) :
    ∃ (d newCap : Nat) (rest : List Value) (el : TypeId), n ≤ newCap ∧ rest.length = newCap * k.size ∧ (Builtin.append_ #[t0, t1] ty #[.slice none 0 0, .int .i64 n]).run P w =
      .ok (.slice (some ⟨w.heap.size, 0, none⟩) n newCap) { atD w d with heap := w.heap.push (.cells rest.toArray el (0, 0)) } := by
  obtain ⟨e, i, h1, h2, h3, h4⟩ := hT.slice
  obtain ⟨z, hzr, hzz⟩ := run_zero_tk h2 w
  have hpos := hT.pos
  have hb0 : ¬ i.bytes = 0 := by omega
  have hfit : ¬ (281474976710656 < Builtin.nextslicecap n 0 * i.bytes) := by
    have := growslice_fits (old := 0) (bytes := i.bytes) (by omega : 0 < n) (by rw [h4]; exact hsum)
    omega
  have hnb : n ≤ 140737488355328 := Nat.le_trans (Nat.le_mul_of_pos_right n hpos) hsum
  have hi : (typeInfo e).run P w = .ok i w := by simp [typeInfo, h3]
  have hid : ∀ d, (typeInfo e).run P (atD w d) = .ok i (atD w d) := fun d => by simp [typeInfo, h3]
  have hzd : ∀ d, (zeroValue e).run P (atD w d) = .ok z (atD w d) := fun d => by
    obtain ⟨i', d', z', hi', _, hz', hk'⟩ := tkOf_some h2
    simp [zeroValue, typeInfo, hi'] at hzr ⊢
    rw [hz'] at hzr ⊢
    simpa using hzr
  have hzs : z.cells.size = k.size := by
    have := congrArg List.length hzz
    simp at this
    rw [← this, hT.zero]
  let q : Question := .appendCap n 0 e
  have hge : n ≤ q.cut (w.tape w.drawn q) := by simp [q, Question.cut]
  refine ⟨w.drawn + 1, q.cut (w.tape w.drawn q), (Builtin.zeroCells z.cells n).toList ++ (Builtin.zeroCells z.cells (q.cut (w.tape w.drawn q) - n)).toList, e, hge, ?_, ?_⟩
  · rw [List.length_append, Array.length_toList, Array.length_toList, zeroCells_size, zeroCells_size, hzs, ← Nat.add_mul]
    congr 1
    omega
  · have hwrap : IntKind.i64.wrap (n : Int) = n := wrap_nat n (by omega)
    have hneg : ¬ ((n : Int) < 0) := by omega
    have hbig : ¬ ((2 : Int) ^ 48 < (n : Int) * (i.bytes : Int)) := by
      rw [h4]
      have : ((n * bytes : Nat) : Int) ≤ 140737488355328 := by omega
      rw [Int.natCast_mul] at this
      omega
    have hmax : ¬ (IntKind.i64.max < (n : Int)) := by
      have : IntKind.i64.max = 9223372036854775807 := by decide
      omega
    have hns : ¬ n * k.size = 0 := Nat.mul_ne_zero (by omega) hT.size
    have hid' : (typeInfo e).run P w.drew = .ok i w.drew := hid (w.drawn + 1)
    have hzd' : (zeroValue e).run P w.drew = .ok z w.drew := hzd (w.drawn + 1)
    have h0' : ¬ n ≤ 0 := by omega
    have hn0 : ¬ n = 0 := by omega
    have has : (asInt (.int .i64 (n : Int))).run P w = .ok (n : Int) w := by simp [asInt, asIntOf]
    have hmx : max (n : Int) 0 = n := by omega
    have hmx2 : ¬ ((9223372036854775807 : Int) < n) := by omega
    have hb48 : ¬ ((281474976710656 : Int) < (n : Int) * (i.bytes : Int)) := hbig
    simp only [Builtin.append_, Sem.run_bind, run_underlying h1, Result.andThen_ok, run_sizeOf_tk h2, run_underlying hT.src, Sem.run_pure, Bool.false_eq_true, if_false, if_true, Sem.run_ite, hi, List.getElem?_toArray, List.getElem?_cons_zero, List.getElem?_cons_succ]
    simp [hb0, hfit, hi, hid', hzd', newRow, Question.forced, q, hwrap, hneg, hbig, hmax, hns, has, h0', Builtin.firstCells, hn0, hmx, hmx2, hb48]
    have ea : ∀ X Y : Array Value, (X.toList ++ Y.toList).toArray = X ++ Y := fun X Y => by apply Array.ext'; simp
    rw [ea]
    rfl
theorem appM {P : Program} {t0 t1 e : TypeId} {k : TK} {bytes : Nat} (h : elemOf P t0 = some (none, e)) (hk : tkOf P e = some k) (hb : P.bytesOf e = bytes) (h1 : P.underlying t1 = some (.int .i64)) (hs : k.size ≠ 0) (hz : k.zero.length = k.size) (hp : 0 < bytes) : AppM P t0 t1 k bytes := by
  refine ⟨?_, h1, hs, hz, hp⟩
  obtain ⟨i, d, z, hi, hd, hz, rfl⟩ := tkOf_some hk
  refine ⟨e, i, elemOf_slice h, hk, hi, ?_⟩
  rw [← hb]
  simp [Program.bytesOf, hi]
/-- Room for so many elements: none of them is told. -/
theorem appB_make {t0 t1 : TypeId} {k : TK} {bytes : Nat} (hT : AppM P t0 t1 k bytes) {n : Nat} (hsum : n * bytes ≤ 140737488355328) (h0 : 0 < n) {K : AV → Sig → Prop}
    (hK : ∀ b c, σ b = none → n ≤ c → K (.own b k.size 0 n) (upd σ b (some (.row [] k.size c)))) : appB P Γ σ t0 t1 (.v (.slice none 0 0)) (.v (.int .i64 n)) K := by
  intro ty w vs r hv
  cases hv with | cons h_s hv => cases hv with | cons h_x hv => cases hv with | nil =>
  cases h_s
  cases h_x
  obtain ⟨d, newCap, rest, el, h2, h3, h4⟩ := append_made (P := P) (w := w) (t0 := t0) (t1 := t1) (ty := ty) hT hsum h0
  have rD : Rel Γ (atD w d) σ := r.of_heap rfl rfl rfl rfl
  have eD : Ext w σ (atD w d) σ := Ext.of_heap rfl rfl rfl rfl
  have hsz : (atD w d).heap.size = w.heap.size := rfl
  have eA := Ext.alloc (w := atD w d) (σ := σ) (.cells rest.toArray el (0, 0)) (.row [] k.size newCap) rD.fresh
  have hrow : BlkRep { atD w d with heap := (atD w d).heap.push (.cells rest.toArray el (0, 0)) } (upd σ w.heap.size (some (.row [] k.size newCap))) w.heap.size (.row [] k.size newCap) :=
    ⟨[], rest, el, by simp, .nil, by simpa using h3⟩
  have rA := rD.alloc (.cells rest.toArray el (0, 0)) (.row [] k.size newCap) hrow
  refine ⟨_, _, _, _, h4, ?_, rA, eD.trans eA, hK w.heap.size newCap r.fresh h2⟩
  refine .own (by simp) h2 (fun _ => by simp) (fun cs s' c hc => ?_)
  rw [hsz, upd_same] at hc
  cases hc
  exact ⟨rfl, by omega⟩
end
end Go.AL

/- Cases: lists put together. -/
set_option linter.unusedVariables false
set_option linter.unusedSimpArgs false
namespace Go.AL
open Go.Proofs
variable {Γ : Glob}
attribute [local irreducible] codeW opsW dopsW
theorem f274 (n : Nat) (hn : Fits n) (σ : Sig) (K : AV → Sig → Prop) (hK : ∀ a σ', Made σ 2 [] 0 a σ' → K a σ') : ACalls Tryz.prog Γ 274 [.v (.slice none 0 0), int n] σ K := by
  refine acalls (ok274 Γ) ?_
  have hneg : ((n : Int) < 0) = False := eq_false (by omega)
  have hw : IntKind.i64.wrap (n : Int) = n := wrap_nat n (by omega)
  have hw0 : IntKind.i64.wrap (0 : Int) = 0 := rfl
  by_cases h : 0 < n
  · have h' : ((0 : Int) < n) = True := eq_true (by omega)
    simp only [go_sem, xQ, ↓reduceIte, xA, xM, xL, xT, xE, xN, xP, xR, xS, Tryz.f274, hneg, hw, hw0, Int.sub_zero, h', true_or]
    refine appB_make (appM el32 tk94 by94 us3 (by decide) rfl (by decide)) (by omega) h (fun b c hb hc => ?_)
    simp only [go_sem, xQ, ↓reduceIte, xA, xM, xL, xT, xE, xN, xP, xR, xS, hneg, hw, hw0, Int.sub_zero, h']
    exact hK _ _ (.inr ⟨b, c, hb, rfl, rfl, rfl⟩)
  · have h' : ((0 : Int) < n) = False := eq_false (by omega)
    simp only [go_sem, xQ, ↓reduceIte, xA, xM, xL, xT, xE, xN, xP, xR, xS, Tryz.f274, hneg, hw, hw0, Int.sub_zero, h']
    exact hK _ _ (.inl ⟨.inl rfl, rfl, rfl, rfl⟩)
theorem f273 (n : Nat) (hn : Fits n) (σ : Sig) (K : AV → Sig → Prop) (hK : ∀ a σ', Made σ 1 [] 0 a σ' → K a σ') : ACalls Tryz.prog Γ 273 [.v (.slice none 0 0), int n] σ K := by
  refine acalls (ok273 Γ) ?_
  have hneg : ((n : Int) < 0) = False := eq_false (by omega)
  have hw : IntKind.i64.wrap (n : Int) = n := wrap_nat n (by omega)
  have hw0 : IntKind.i64.wrap (0 : Int) = 0 := rfl
  by_cases h : 0 < n
  · have h' : ((0 : Int) < n) = True := eq_true (by omega)
    simp only [go_sem, xQ, ↓reduceIte, xA, xM, xL, xT, xE, xN, xP, xR, xS, Tryz.f273, hneg, hw, hw0, Int.sub_zero, h', true_or]
    refine appB_make (appM el73 tk32 by32 us3 (by decide) rfl (by decide)) (by omega) h (fun b c hb hc => ?_)
    simp only [go_sem, xQ, ↓reduceIte, xA, xM, xL, xT, xE, xN, xP, xR, xS, hneg, hw, hw0, Int.sub_zero, h']
    exact hK _ _ (.inr ⟨b, c, hb, rfl, rfl, rfl⟩)
  · have h' : ((0 : Int) < n) = False := eq_false (by omega)
    simp only [go_sem, xQ, ↓reduceIte, xA, xM, xL, xT, xE, xN, xP, xR, xS, Tryz.f273, hneg, hw, hw0, Int.sub_zero, h']
    exact hK _ _ (.inl ⟨.inl rfl, rfl, rfl, rfl⟩)
theorem Made.grow {σ σ' : Sig} {s n : Nat} {cs : List AV} {a : AV} (h : Made σ s cs n a σ') : Drop σ' σ ∧ Grow σ σ' s a cs n := by
  rcases h with ⟨h1, h2, h3, rfl⟩ | ⟨b, c, h1, rfl, rfl, h2⟩
  · exact ⟨.refl _, .inl ⟨h1, h2, h3⟩⟩
  · exact ⟨(Drop.refl σ).upd h1, .inr ⟨b, c, rfl, h1, upd_same _ _ _, h2⟩⟩
theorem flat_succ {α : Type} {l : List (List α)} {k : Nat} {x : List α} (h : l[k]? = some x) : (l.take (k + 1)).flatten = (l.take k).flatten ++ x := by rw [take_succ h]; simp
theorem flat_le {α : Type} {l : List (List α)} (k : Nat) : (l.take k).flatten.length ≤ l.flatten.length := by
  have : (l.take k).flatten.length + (l.drop k).flatten.length = l.flatten.length := by rw [← List.length_append, ← List.flatten_append, List.take_append_drop]
  omega
theorem one_rows (l : List Tm) : (l.flatMap tmC).all AV.one = true := by
  induction l with
  | nil => rfl
  | cons t l ih => rw [List.flatMap_cons, List.all_append, ih]; rfl
theorem one_slT (l : List (List Tm)) : (l.map slT).all AV.one = true := by
  induction l with
  | nil => rfl
  | cons t l ih => rw [List.map_cons, List.all_cons, ih]; rfl
theorem f258 (l : List (List Tm)) (hl : Fits l.length) (hF : Fits l.flatten.length) : PCalls Tryz.prog Γ 258 [slC l] (slT l.flatten) := by
  refine pcalls (ok258 Γ) fun σ => ?_
  simp only [go_sem, xQ, ↓reduceIte, xA, xM, xL, xT, xE, xN, xP, xR, xS, Tryz.f258]
  refine SemC.loopK mixed l.length (fun k ρ σ' ds => σ' = σ ∧ ds = [] ∧ ρ 0 = slC l ∧ ρ 3 = int (l.take k).flatten.length ∧ ρ 9 = slC l ∧ ρ 10 = int l.length ∧ ρ 11 = int k) (by kernel_rfl) ⟨rfl, rfl, rfl, rfl, rfl, rfl, rfl⟩ ?_
  rintro k ρ σ' ds hk ⟨rfl, rfl, h0, h3, h9, h10, h11⟩
  rcases get_or_end l k hk with ⟨x, hx, hlt, hd⟩ | rfl
  · have hfl := flat_le (l := l) (k + 1)
    rw [flat_succ hx, List.length_append] at hfl
    have hw : IntKind.i64.wrap (((l.take k).flatten.length : Int) + x.length) = (((l.take k).flatten.length + x.length : Nat) : Int) := by rw [← Int.natCast_add]; exact wrap_nat _ (by omega)
    have hneg : ((((l.take k).flatten.length + x.length : Nat) : Int) < 0) = False := eq_false (by omega)
    simp only [go_sem, xQ, ↓reduceIte, xA, xM, xL, xT, xE, xN, xP, xR, xS, h0, h3, h9, h10, h11, hlt, hx, hw, hneg]
    exact ⟨by rw [flat_succ hx, List.length_append], by rw [wrap_succ _ (by omega)]⟩
  · rw [List.take_length] at h3
    simp only [go_sem, xQ, ↓reduceIte, xA, xM, xL, xT, xE, xN, xP, xR, xS, h0, h3, h9, h10, h11, Nat.lt_irrefl]
    refine callB_a (f274 l.flatten.length hF σ' _ (fun a σ1 hm => ?_)) rfl
    obtain ⟨hD1, hG1⟩ := hm.grow
    simp only [go_sem, xQ, ↓reduceIte, xA, xM, xL, xT, xE, xN, xP, xR, xS, h0, h3, h9, h10, h11]
    refine SemC.loopK mixed l.length (fun k ρ σ2 ds => Drop σ2 σ' ∧ ds = [] ∧ ρ 25 = slC l ∧ ρ 26 = int l.length ∧ ρ 27 = int k ∧ Grow σ' σ2 2 (ρ 6) ((l.take k).flatten.flatMap tmC) (l.take k).flatten.length) (by kernel_rfl) ⟨hD1, rfl, by simp only [go_sem, xQ, ↓reduceIte, xA, xM, xL, xT, xE, xN, xP, xR, xS, h0], rfl, rfl, hG1⟩ ?_
    rintro k ρ σ2 ds hk ⟨hD, rfl, h25, h26, h27, hG⟩
    rcases get_or_end l k hk with ⟨x, hx, hlt, hd⟩ | rfl
    · have hfl := flat_le (l := l) (k + 1)
      rw [flat_succ hx, List.length_append] at hfl
      simp only [go_sem, xQ, ↓reduceIte, xA, xM, xL, xT, xE, xN, xP, xR, xS, h25, h26, h27, hlt, hx]
      refine appB_sl (appT_sl el32 tk94 by94 el32 (by decide) rfl (by decide)) hD hG (one_rows x) (rows_length tmC_len) (by omega) (fun a' σ3 hD2 hO hG2 => ?_)
      simp only [go_sem, xQ, ↓reduceIte, xA, xM, xL, xT, xE, xN, xP, xR, xS, h25, h26, h27]
      refine ⟨hD2, by rw [wrap_succ _ (by omega)], ?_⟩
      rw [flat_succ hx, List.length_append, List.flatMap_append]
      exact hG2
    · rw [List.take_length] at hG
      simp only [go_sem, xQ, ↓reduceIte, xA, xM, xL, xT, xE, xN, xP, xR, xS, h25, h26, h27, Nat.lt_irrefl]
      exact hG.retP hD
theorem f257 (l : List (List (List Tm))) (hl : Fits l.length) (hF : Fits l.flatten.length) : PCalls Tryz.prog Γ 257 [slCC l] (slC l.flatten) := by
  refine pcalls (ok257 Γ) fun σ => ?_
  simp only [go_sem, xQ, ↓reduceIte, xA, xM, xL, xT, xE, xN, xP, xR, xS, Tryz.f257]
  refine SemC.loopK mixed l.length (fun k ρ σ' ds => σ' = σ ∧ ds = [] ∧ ρ 0 = slCC l ∧ ρ 3 = int (l.take k).flatten.length ∧ ρ 9 = slCC l ∧ ρ 10 = int l.length ∧ ρ 11 = int k) (by kernel_rfl) ⟨rfl, rfl, rfl, rfl, rfl, rfl, rfl⟩ ?_
  rintro k ρ σ' ds hk ⟨rfl, rfl, h0, h3, h9, h10, h11⟩
  rcases get_or_end l k hk with ⟨x, hx, hlt, hd⟩ | rfl
  · have hfl := flat_le (l := l) (k + 1)
    rw [flat_succ hx, List.length_append] at hfl
    have hw : IntKind.i64.wrap (((l.take k).flatten.length : Int) + x.length) = (((l.take k).flatten.length + x.length : Nat) : Int) := by rw [← Int.natCast_add]; exact wrap_nat _ (by omega)
    have hneg : ((((l.take k).flatten.length + x.length : Nat) : Int) < 0) = False := eq_false (by omega)
    simp only [go_sem, xQ, ↓reduceIte, xA, xM, xL, xT, xE, xN, xP, xR, xS, h0, h3, h9, h10, h11, hlt, hx, hw, hneg]
    exact ⟨by rw [flat_succ hx, List.length_append], by rw [wrap_succ _ (by omega)]⟩
  · rw [List.take_length] at h3
    simp only [go_sem, xQ, ↓reduceIte, xA, xM, xL, xT, xE, xN, xP, xR, xS, h0, h3, h9, h10, h11, Nat.lt_irrefl]
    refine callB_a (f273 l.flatten.length hF σ' _ (fun a σ1 hm => ?_)) rfl
    obtain ⟨hD1, hG1⟩ := hm.grow
    simp only [go_sem, xQ, ↓reduceIte, xA, xM, xL, xT, xE, xN, xP, xR, xS, h0, h3, h9, h10, h11]
    refine SemC.loopK mixed l.length (fun k ρ σ2 ds => Drop σ2 σ' ∧ ds = [] ∧ ρ 25 = slCC l ∧ ρ 26 = int l.length ∧ ρ 27 = int k ∧ Grow σ' σ2 1 (ρ 6) ((l.take k).flatten.map slT) (l.take k).flatten.length) (by kernel_rfl) ⟨hD1, rfl, by simp only [go_sem, xQ, ↓reduceIte, xA, xM, xL, xT, xE, xN, xP, xR, xS, h0], rfl, rfl, hG1⟩ ?_
    rintro k ρ σ2 ds hk ⟨hD, rfl, h25, h26, h27, hG⟩
    rcases get_or_end l k hk with ⟨x, hx, hlt, hd⟩ | rfl
    · have hfl := flat_le (l := l) (k + 1)
      rw [flat_succ hx, List.length_append] at hfl
      simp only [go_sem, xQ, ↓reduceIte, xA, xM, xL, xT, xE, xN, xP, xR, xS, h25, h26, h27, hlt, hx]
      refine appB_sl (appT_sl el73 tk32 by32 el73 (by decide) rfl (by decide)) hD hG (one_slT x) (by simp) (by omega) (fun a' σ3 hD2 hO hG2 => ?_)
      simp only [go_sem, xQ, ↓reduceIte, xA, xM, xL, xT, xE, xN, xP, xR, xS, h25, h26, h27]
      refine ⟨hD2, by rw [wrap_succ _ (by omega)], ?_⟩
      rw [flat_succ hx, List.length_append, List.map_append]
      exact hG2
    · rw [List.take_length] at hG
      simp only [go_sem, xQ, ↓reduceIte, xA, xM, xL, xT, xE, xN, xP, xR, xS, h25, h26, h27, Nat.lt_irrefl]
      exact hG.retP hD
/-- Each list of the first ones followed by each of the second ones. -/
def prodC (a b : List (List Tm)) : List (List Tm) := a.flatMap fun x => b.map fun y => x ++ y
theorem prodC_succ {a b : List (List Tm)} {k : Nat} {x : List Tm} (h : a[k]? = some x) : prodC (a.take (k + 1)) b = prodC (a.take k) b ++ b.map fun y => x ++ y := by rw [take_succ h, prodC, List.flatMap_append]; simp [prodC]
theorem prodC_len (a b : List (List Tm)) : (prodC a b).length = a.length * b.length := by
  induction a with
  | nil => simp [prodC]
  | cons x a ih => rw [prodC, List.flatMap_cons, List.length_append, List.length_map, List.length_cons, Nat.add_mul, Nat.one_mul, ← prodC, ih]; omega
theorem f256 (a b : List (List Tm)) (ha : a.length ≤ 10000) (hb : b.length ≤ 10000) (hal : ∀ x ∈ a, x.length ≤ 1000000) (hbl : ∀ x ∈ b, x.length ≤ 1000000) : PCalls Tryz.prog Γ 256 [slC a, slC b] (slC (prodC a b)) := by
  refine pcalls (ok256 Γ) fun σ => ?_
  simp only [go_sem, xQ, ↓reduceIte, xA, xM, xL, xT, xE, xN, xP, xR, xS, Tryz.f256]
  refine SemC.loopK mixed a.length (fun k ρ σ' ds => Drop σ' σ ∧ ds = [] ∧ ρ 0 = slC a ∧ ρ 1 = slC b ∧ ρ 10 = slC a ∧ ρ 11 = int a.length ∧ ρ 12 = int k ∧ Grow σ σ' 1 (ρ 5) ((prodC (a.take k) b).map slT) (k * b.length)) (by kernel_rfl) ⟨.refl _, rfl, rfl, rfl, rfl, rfl, rfl, by rw [Nat.zero_mul]; exact Grow.nil _ _ _⟩ ?_
  rintro k ρ σ' ds hk ⟨hD, rfl, h0, h1, h10, h11, h12, hG⟩
  rcases get_or_end a k hk with ⟨x, hx, hlt, hd⟩ | hk
  · by_cases hb0 : b = []
    · subst hb0
      simp only [go_sem, xQ, ↓reduceIte, xA, xM, xL, xT, xE, xN, xP, xR, xS, h0, h1, h10, h11, h12, hlt, hx]
      have e : (prodC (a.take k) []).map slT = ([] : List AV) := by simp [prodC]
      rw [e] at hG
      have := hG.retP hD
      have e2 : prodC a [] = [] := by simp [prodC]
      rw [e2]
      exact this
    · have hbn : ¬ ((b.length : Int) = 0) := by
        have := List.length_pos_iff.2 hb0
        omega
      have hxl := hal x (mem_of_get hx)
      have hmul : (k + 1) * b.length ≤ 10000 * 10000 := Nat.mul_le_mul (by omega) hb
      simp only [go_sem, xQ, ↓reduceIte, xA, xM, xL, xT, xE, xN, xP, xR, xS, h0, h1, h10, h11, h12, hlt, hx, hbn]
      refine SemC.loopK mixed b.length (fun j ρ σ2 ds => Drop σ2 σ ∧ ds = [] ∧ ρ 0 = slC a ∧ ρ 1 = slC b ∧ ρ 7 = slT x ∧ ρ 10 = slC a ∧ ρ 11 = int a.length ∧ ρ 12 = int k ∧ ρ 19 = slC b ∧ ρ 20 = int b.length ∧ ρ 21 = int j ∧ Grow σ σ2 1 (ρ 5) ((prodC (a.take k) b ++ (b.take j).map fun y => x ++ y).map slT) (k * b.length + j)) (by kernel_rfl) ⟨hD, rfl, by simp only [go_sem, xQ, ↓reduceIte, xA, xM, xL, xT, xE, xN, xP, xR, xS, h0], by simp only [go_sem, xQ, ↓reduceIte, xA, xM, xL, xT, xE, xN, xP, xR, xS, h1], rfl, by simp only [go_sem, xQ, ↓reduceIte, xA, xM, xL, xT, xE, xN, xP, xR, xS, h10], by simp only [go_sem, xQ, ↓reduceIte, xA, xM, xL, xT, xE, xN, xP, xR, xS, h11], by simp only [go_sem, xQ, ↓reduceIte, xA, xM, xL, xT, xE, xN, xP, xR, xS, h12], by simp only [go_sem, xQ, ↓reduceIte, xA, xM, xL, xT, xE, xN, xP, xR, xS, h1], rfl, rfl, by simp only [List.take_zero, List.map_nil, List.append_nil, Nat.add_zero]; exact hG⟩ ?_
      rintro j ρ σ2 ds hj ⟨hD, rfl, h0, h1, h7, h10, h11, h12, h19, h20, h21, hG⟩
      rcases get_or_end b j hj with ⟨y, hy, hlt2, hd2⟩ | hjj
      · have hyl := hbl y (mem_of_get hy)
        simp only [go_sem, xQ, ↓reduceIte, xA, xM, xL, xT, xE, xN, xP, xR, xS, h0, h1, h7, h10, h11, h12, h19, h20, h21, hlt2, hy]
        refine callB_use (f258 [x, y] (by simp) (by simp; omega)) rfl ?_
        simp only [go_sem, xQ, ↓reduceIte, xA, xM, xL, xT, xE, xN, xP, xR, xS, h0, h1, h7, h10, h11, h12, h19, h20, h21]
        rw [Nat.add_mul] at hmul
        refine appB_sl (appT_sl el73 tk32 by32 el73 (by decide) rfl (by decide)) hD hG rfl rfl (by omega) (fun a' σ3 hD2 hO hG2 => ?_)
        simp only [go_sem, xQ, ↓reduceIte, xA, xM, xL, xT, xE, xN, xP, xR, xS, h0, h1, h7, h10, h11, h12, h19, h20, h21]
        refine ⟨hD2, by rw [wrap_succ _ (by omega)], ?_⟩
        rw [take_succ hy]
        simpa [Nat.add_assoc, slT] using hG2
      · subst hjj
        rw [List.take_length, ← prodC_succ hx] at hG
        simp only [go_sem, xQ, ↓reduceIte, xA, xM, xL, xT, xE, xN, xP, xR, xS, h0, h1, h7, h10, h11, h12, h19, h20, h21, Nat.lt_irrefl]
        exact ⟨hlt, hD, by rw [wrap_succ _ (by omega)], by rw [Nat.add_mul, Nat.one_mul]; exact hG⟩
  · subst hk
    rw [List.take_length] at hG
    simp only [go_sem, xQ, ↓reduceIte, xA, xM, xL, xT, xE, xN, xP, xR, xS, h0, h1, h10, h11, h12, Nat.lt_irrefl]
    rw [prodC_len]
    exact hG.retP hD
end Go.AL

/- Cases, told plainly: the lists of a way, and how they count. -/
set_option linter.unusedVariables false
set_option linter.unusedSimpArgs false
namespace Go.AL
/-- The lists of a way, by those of the kids. -/
def mkC (k : Int) (b : Bool) (t : Tm) (sub : List (List (List Tm))) : List (List Tm) :=
  if k = 0 then [[lessT (if b then oppT t (-1) else t) 0]]
  else if k = 1 then (if b then [[lessT t 1], [oppT t (-1)]] else [[lessT t 0, oppT t 0]])
  else if k = 2 then sub.getLastD []
  else if k = 3 then (if sub.any (fun x => decide (x.length = 0)) then [] else sub.foldl prodC [[]])
  else if k = 4 then sub.flatten else []
def casF (l : List Nd) : Nat → WayT → List (List Tm)
  | 0, _ => []
  | fuel + 1, w => match l[w.1.toNat]? with
    | none => []
    | some n => mkC (kindW n w.2) w.2 n.term (n.kids.map fun x => casF l fuel (x, w.2 != decide (n.kind = 2)))
def casW (l : List Nd) (w : WayT) : List (List Tm) := casF l (w.1.toNat + 1) w
theorem casF_st {l : List Nd} (hd : KidsDown l) : ∀ (fuel fuel' : Nat) (w : WayT), w.1.toNat < fuel → w.1.toNat < fuel' → casF l fuel w = casF l fuel' w
  | 0, _, _, h, _ => by omega
  | _ + 1, 0, _, _, h => by omega
  | fuel + 1, fuel' + 1, w, h, h' => by
    rw [casF, casF]
    cases hn : l[w.1.toNat]? with
    | none => rfl
    | some n =>
      have e : (n.kids.map fun x => casF l fuel (x, w.2 != decide (n.kind = 2))) = n.kids.map fun x => casF l fuel' (x, w.2 != decide (n.kind = 2)) := by
        refine List.map_congr_left fun x hx => ?_
        have := hd _ _ hn x hx
        exact casF_st hd fuel fuel' _ (by simp only; omega) (by simp only; omega)
      simp only [e]
def subW (l : List Nd) (n : Nd) (b : Bool) : List (List (List Tm)) := n.kids.map fun x => casW l (x, b != decide (n.kind = 2))
theorem casW_eq {l : List Nd} (hd : KidsDown l) {i : Nat} {n : Nd} (hn : l[i]? = some n) (b : Bool) : casW l ((i : Int), b) = mkC (kindW n b) b n.term (subW l n b) := by
  have e : (n.kids.map fun x => casF l i (x, b != decide (n.kind = 2))) = subW l n b := by
    refine List.map_congr_left fun x hx => ?_
    have := hd _ _ hn x hx
    exact casF_st hd _ _ _ (by simp only; omega) (by simp only; omega)
  rw [casW]
  simp only [Int.toNat_natCast, casF, hn, e]
/-- The longest list. -/
def maxL : List (List Tm) → Nat
  | [] => 0
  | x :: l => max x.length (maxL l)
theorem maxL_mem {l : List (List Tm)} {x : List Tm} (h : x ∈ l) : x.length ≤ maxL l := by
  induction l with
  | nil => cases h
  | cons y l ih =>
    rw [maxL]
    rcases List.mem_cons.1 h with rfl | h
    · exact Nat.le_max_left _ _
    · exact Nat.le_trans (ih h) (Nat.le_max_right _ _)
theorem maxL_app (a b : List (List Tm)) : maxL (a ++ b) = max (maxL a) (maxL b) := by
  induction a with
  | nil => simp [maxL]
  | cons x a ih => rw [List.cons_append, maxL, maxL, ih]; omega
theorem maxL_map (x : List Tm) {b : List (List Tm)} (h : b ≠ []) : maxL (b.map fun y => x ++ y) = x.length + maxL b := by
  induction b with
  | nil => exact absurd rfl h
  | cons y b ih =>
    rw [List.map_cons, maxL, maxL, List.length_append]
    by_cases hb : b = []
    · subst hb; simp [maxL]
    · rw [ih hb]; omega
theorem maxL_prod {a b : List (List Tm)} (ha : a ≠ []) (hb : b ≠ []) : maxL (prodC a b) = maxL a + maxL b := by
  induction a with
  | nil => exact absurd rfl ha
  | cons x a ih =>
    rw [prodC, List.flatMap_cons, maxL_app, maxL_map x hb, maxL]
    by_cases ha' : a = []
    · subst ha'; simp [maxL]
    · have := ih ha'
      rw [prodC] at this
      rw [this]
      omega
theorem maxL_zero {a : List (List Tm)} (h : a.length = 0) : maxL a = 0 := by
  have : a = [] := List.eq_nil_of_length_eq_zero h
  subst this; rfl
/-- How lists count. -/
def sizeC (C : List (List Tm)) : Int × Int := (min (C.length : Int) 65, min (maxL C : Int) 33)
def exC (C : List (List Tm)) : Int × Int := ((C.length : Int), (maxL C : Int))
theorem size_small {C : List (List Tm)} (h1 : C.length ≤ 64) (h2 : maxL C ≤ 32) : sizeC C = exC C := by
  unfold sizeC exC
  rw [Int.min_eq_left (by omega), Int.min_eq_left (by omega)]
theorem size_bad {C : List (List Tm)} : badC (sizeC C) = false ↔ C.length ≤ 64 ∧ maxL C ≤ 32 := by
  unfold badC sizeC
  simp only [Bool.or_eq_false_iff, decide_eq_false_iff_not]
  omega
theorem foldl_A : ∀ (S : List (List (List Tm))) (A : List (List Tm)), (∀ C ∈ S, C ≠ []) → A ≠ [] → (S.map exC).foldl stepA (min (A.length : Int) 65, (maxL A : Int)) = (min ((S.foldl prodC A).length : Int) 65, (maxL (S.foldl prodC A) : Int)) ∧ S.foldl prodC A ≠ []
  | [], A, _, hA => ⟨rfl, hA⟩
  | C :: S, A, h, hA => by
    have hC := h C (by simp)
    have hp : prodC A C ≠ [] := fun e => by
      have := congrArg List.length e
      rw [prodC_len, List.length_nil] at this
      have := List.length_pos_iff.2 hA
      have := List.length_pos_iff.2 hC
      rcases Nat.mul_eq_zero.1 ‹_› with h | h <;> omega
    have e : stepA (min (A.length : Int) 65, (maxL A : Int)) (exC C) = (min ((prodC A C).length : Int) 65, (maxL (prodC A C) : Int)) := by
      have h1 := List.length_pos_iff.2 hC
      rw [prodC_len, maxL_prod hA hC, stepA, exC]
      simp only [Int.natCast_add, Int.natCast_mul, Prod.mk.injEq, and_true]
      by_cases h65 : (A.length : Int) ≤ 65
      · rw [Int.min_eq_left h65]
      · have hm : (65 : Int) ≤ (A.length : Int) * (C.length : Int) := by
          have := Int.mul_le_mul (show (65 : Int) ≤ A.length by omega) (show (1 : Int) ≤ C.length by omega) (by decide) (by omega)
          omega
        have hm2 : (65 : Int) ≤ 65 * (C.length : Int) := by omega
        rw [Int.min_eq_right (show (65 : Int) ≤ A.length by omega), Int.min_eq_right hm, Int.min_eq_right hm2]
    rw [List.map_cons, List.foldl_cons, List.foldl_cons, e]
    exact foldl_A S _ (fun D hD => h D (List.mem_cons_of_mem _ hD)) hp
theorem foldl_O : ∀ (S : List (List (List Tm))) (A : List (List Tm)), (S.map exC).foldl stepO (min (A.length : Int) 65, (maxL A : Int)) = (min ((A ++ S.flatten).length : Int) 65, (maxL (A ++ S.flatten) : Int))
  | [], A => by simp
  | C :: S, A => by
    have e : stepO (min (A.length : Int) 65, (maxL A : Int)) (exC C) = (min ((A ++ C).length : Int) 65, (maxL (A ++ C) : Int)) := by
      rw [maxL_app, List.length_append, stepO, exC]
      simp only [Int.natCast_add, Prod.mk.injEq]
      omega
    rw [List.map_cons, List.foldl_cons, e, foldl_O S (A ++ C), List.flatten_cons, List.append_assoc]
/-- Kids that count as they are make lists that count as they are. -/
theorem size_mk (k : Int) (b : Bool) (t : Tm) (S : List (List (List Tm))) (hk : k = 0 ∨ k = 1 ∨ k = 2 ∨ k = 3 ∨ k = 4) (h2 : k = 2 → ∃ C, S = [C]) (hS : ∀ C ∈ S, C.length ≤ 64) :
    ((outC k b (S.map exC)).1, min (outC k b (S.map exC)).2 33) = sizeC (mkC k b t S) := by
  rcases hk with rfl | rfl | rfl | rfl | rfl
  · rfl
  · cases b <;> rfl
  · obtain ⟨C, rfl⟩ := h2 rfl
    have := hS C (by simp)
    have e : outC 2 b ([C].map exC) = exC C := rfl
    have e2 : mkC 2 b t [C] = C := rfl
    rw [e, e2, exC, sizeC, Int.min_eq_left (show (C.length : Int) ≤ 65 by omega)]
  · have ha : ((S.map exC).any fun n => decide (n = (0, 0))) = S.any fun x => decide (x.length = 0) := by
      rw [List.any_map]
      congr 1
      funext C
      simp only [Function.comp, exC]
      refine decide_eq_decide.2 ⟨fun h => ?_, fun h => ?_⟩
      · injection h with h1 _; omega
      · rw [h, maxL_zero h]; rfl
    have e : outC 3 b (S.map exC) = if (S.map exC).any (fun n => decide (n = (0, 0))) then (0, 0) else (S.map exC).foldl stepA (1, 0) := rfl
    have e2 : mkC 3 b t S = if S.any (fun x => decide (x.length = 0)) then [] else S.foldl prodC [[]] := rfl
    rw [e, e2, ha]
    split
    · rfl
    · rename_i h
      obtain ⟨f1, f2⟩ := foldl_A S [[]] (fun C hC e => h (List.any_eq_true.2 ⟨C, hC, by simp [e]⟩)) (by simp)
      have h0 : ((min (([[]] : List (List Tm)).length : Int) 65, (maxL [[]] : Int)) : Int × Int) = (1, 0) := rfl
      rw [h0] at f1
      rw [f1]
      rfl
  · have e : outC 4 b (S.map exC) = (S.map exC).foldl stepO (0, 0) := rfl
    have e2 : mkC 4 b t S = S.flatten := rfl
    have f := foldl_O S []
    have h0 : ((min (([] : List (List Tm)).length : Int) 65, (maxL [] : Int)) : Int × Int) = (0, 0) := rfl
    rw [h0, List.nil_append] at f
    rw [e, e2, f]
    rfl
theorem kindW_cases {n : Nd} {i : Nat} {vars : Int} (h : NodeOk n i vars) (b : Bool) : kindW n b = 0 ∨ kindW n b = 1 ∨ kindW n b = 2 ∨ kindW n b = 3 ∨ kindW n b = 4 := by
  have := h.lo
  have := h.hi
  unfold kindW
  split <;> omega
theorem cnt_cas {l : List Nd} {vars : Int} (hd : KidsDown l) (hok : ∀ k n, l[k]? = some n → NodeOk n k vars) : ∀ (N i : Nat) (b : Bool) (n : Nd), i < N → l[i]? = some n →
    ((∀ x ∈ n.kids, badW l (x, b != decide (n.kind = 2)) = false) → cntW l ((i : Int), b) = sizeC (casW l ((i : Int), b))) ∧
    (badW l ((i : Int), b) = false → (casW l ((i : Int), b)).length ≤ 64 ∧ maxL (casW l ((i : Int), b)) ≤ 32 ∧ cntW l ((i : Int), b) = exC (casW l ((i : Int), b)))
  | 0, _, _, _, h, _ => by omega
  | N + 1, i, b, n, hi, hn => by
    have h1 : (∀ x ∈ n.kids, badW l (x, b != decide (n.kind = 2)) = false) → cntW l ((i : Int), b) = sizeC (casW l ((i : Int), b)) := fun hk => by
      have hkid : ∀ x ∈ n.kids, (casW l (x, b != decide (n.kind = 2))).length ≤ 64 ∧ cntW l (x, b != decide (n.kind = 2)) = exC (casW l (x, b != decide (n.kind = 2))) := fun x hx => by
        have hxr := hd i n hn x hx
        obtain ⟨j, rfl⟩ := Int.eq_ofNat_of_zero_le hxr.1
        obtain ⟨nc, hnc⟩ : ∃ nc, l[j]? = some nc := ⟨l[j]'(by have := lt_of_getElem? hn; omega), List.getElem?_eq_getElem _⟩
        obtain ⟨a1, a2, a3⟩ := (cnt_cas hd hok N j (b != decide (n.kind = 2)) nc (by omega) hnc).2 (hk _ hx)
        exact ⟨a1, a3⟩
      have hs : (n.kids.map fun x => cntW l (x, b != decide (n.kind = 2))) = (subW l n b).map exC := by
        rw [subW, List.map_map]
        exact List.map_congr_left fun x hx => (hkid x hx).2
      rw [cntW_eq hd hn, casW_eq hd hn, hs]
      refine size_mk _ _ _ _ (kindW_cases (hok i n hn) b) (fun h2 => ?_) (fun C hC => ?_)
      · have hk2 : n.kind = 2 := by have := (hok i n hn).lo; have := (hok i n hn).hi; unfold kindW at h2; split at h2 <;> omega
        obtain ⟨x, hx⟩ := List.length_eq_one_iff.1 (((hok i n hn).form (by omega)).2.2.1 hk2)
        exact ⟨_, by rw [subW, hx]; rfl⟩
      · obtain ⟨x, hx, rfl⟩ := List.mem_map.1 hC
        exact (hkid x hx).1
    refine ⟨h1, fun hb => ?_⟩
    rw [badW_eq hd hn, Bool.or_eq_false_iff] at hb
    have e := h1 (fun x hx => by
      have := List.any_eq_false.1 hb.2 x hx
      simpa using this)
    rw [e] at hb
    obtain ⟨a1, a2⟩ := size_bad.1 hb.1
    exact ⟨a1, a2, by rw [e, size_small a1 a2]⟩
theorem bad_kid {l : List Nd} (hd : KidsDown l) {i : Nat} {n : Nd} (hn : l[i]? = some n) {b : Bool} (h : badW l ((i : Int), b) = false) {x : Int} (hx : x ∈ n.kids) : badW l (x, b != decide (n.kind = 2)) = false := by
  rw [badW_eq hd hn, Bool.or_eq_false_iff] at h
  have := List.any_eq_false.1 h.2 x hx
  simpa using this
theorem flat_max (C : List (List Tm)) : C.flatten.length ≤ C.length * maxL C := by
  induction C with
  | nil => simp
  | cons x C ih =>
    rw [List.flatten_cons, List.length_append, List.length_cons, maxL, Nat.add_mul, Nat.one_mul]
    have h1 : C.length * maxL C ≤ C.length * max x.length (maxL C) := Nat.mul_le_mul_left _ (Nat.le_max_right _ _)
    have h2 : x.length ≤ max x.length (maxL C) := Nat.le_max_left _ _
    omega
theorem prod_up : ∀ (S : List (List (List Tm))) (A : List (List Tm)), (∀ C ∈ S, C ≠ []) → A ≠ [] → A.length ≤ (S.foldl prodC A).length ∧ maxL A ≤ maxL (S.foldl prodC A) ∧ S.foldl prodC A ≠ []
  | [], A, _, hA => ⟨Nat.le_refl _, Nat.le_refl _, hA⟩
  | C :: S, A, h, hA => by
    have hC := h C (by simp)
    have hp : prodC A C ≠ [] := fun e => by
      have := congrArg List.length e
      rw [prodC_len, List.length_nil] at this
      have := List.length_pos_iff.2 hA
      have := List.length_pos_iff.2 hC
      rcases Nat.mul_eq_zero.1 ‹_› with h | h <;> omega
    obtain ⟨a1, a2, a3⟩ := prod_up S (prodC A C) (fun D hD => h D (List.mem_cons_of_mem _ hD)) hp
    rw [maxL_prod hA hC] at a2
    rw [prodC_len] at a1
    have := Nat.le_mul_of_pos_right A.length (List.length_pos_iff.2 hC)
    exact ⟨Nat.le_trans this a1, by rw [List.foldl_cons]; omega, a3⟩
theorem prod_part {S : List (List (List Tm))} (h : ∀ C ∈ S, C ≠ []) (k : Nat) : ((S.take k).foldl prodC [[]]).length ≤ (S.foldl prodC [[]]).length ∧ maxL ((S.take k).foldl prodC [[]]) ≤ maxL (S.foldl prodC [[]]) := by
  have h1 := (prod_up (S.take k) [[]] (fun C hC => h C (List.mem_of_mem_take hC)) (by simp)).2.2
  obtain ⟨a1, a2, _⟩ := prod_up (S.drop k) ((S.take k).foldl prodC [[]]) (fun C hC => h C (List.mem_of_mem_drop hC)) h1
  rw [← List.foldl_append, List.take_append_drop] at a1 a2
  exact ⟨a1, a2⟩
/-! ### Terms that are too large -/
def larT (t : Tm) : Bool := decide (largeE t ≠ 0)
def larC (C : List (List Tm)) : Bool := C.flatten.any larT
def larW (l : List Nd) (w : WayT) : Bool := (reachW l w).any fun v => larC (casW l v)
theorem larW_eq {l : List Nd} (hd : KidsDown l) {i : Nat} {n : Nd} (hn : l[i]? = some n) (b : Bool) : larW l ((i : Int), b) = (larC (casW l ((i : Int), b)) || n.kids.any fun x => larW l (x, b != decide (n.kind = 2))) := by
  have e : (n.kids.flatMap fun x => reachFX l i (x, b != decide (n.kind = 2))) = n.kids.flatMap fun x => reachW l (x, b != decide (n.kind = 2)) := by
    rw [List.flatMap_def, List.flatMap_def]
    congr 1
    refine List.map_congr_left fun x hx => ?_
    have := hd _ _ hn x hx
    exact reachF_st hd _ _ _ (by simp only; omega) (by simp only; omega)
  have r : reachW l ((i : Int), b) = ((i : Int), b) :: n.kids.flatMap fun x => reachW l (x, b != decide (n.kind = 2)) := by
    rw [reachW]
    simp only [Int.toNat_natCast, reachFX, hn, e]
  rw [larW, r, List.any_cons, List.any_flatMap]
  rfl
/-- What the memory of lists may be. -/
def MemoL (l : List Nd) (m : List (WayT × AV)) (lar : Bool) : Prop := ∀ p ∈ m, p.2 = slC (casW l p.1) ∧ (larW l p.1 = true → lar = true)
theorem MemoL.add {l : List Nd} {m : List (WayT × AV)} {lar lar' : Bool} {w : WayT} (h : MemoL l m lar) (hb : lar = true → lar' = true) (hw : larW l w = true → lar' = true) : MemoL l (m ++ [(w, slC (casW l w))]) lar' := by
  intro p hp
  rcases List.mem_append.1 hp with hp | hp
  · exact ⟨(h p hp).1, fun hh => hb ((h p hp).2 hh)⟩
  · rw [List.mem_singleton] at hp
    subst hp
    exact ⟨rfl, hw⟩
theorem MemoL.up {l : List Nd} {m : List (WayT × AV)} {lar lar' : Bool} (h : MemoL l m lar) (hb : lar = true → lar' = true) : MemoL l m lar' := fun p hp => ⟨(h p hp).1, fun hh => hb ((h p hp).2 hh)⟩
structure MidL (l : List Nd) (i : Nat) (n : Nd) (b : Bool) (m : List (WayT × AV)) (lar : Bool) (k : Nat) (m1 : List (WayT × AV)) (lar1 : Bool) : Prop where
  memo : MemoL l m1 lar1
  up : lar = true → lar1 = true
  kids : ∀ x ∈ n.kids.take k, larW l (x, b != decide (n.kind = 2)) = true → lar1 = true
  why : lar1 = true → lar = true ∨ (n.kids.take k).any (fun x => larW l (x, b != decide (n.kind = 2))) = true
  new : ∀ p ∈ m1, p ∈ m ∨ p.1.1 < (i : Int)
theorem MidL.zero {l : List Nd} {i : Nat} {n : Nd} {b : Bool} {m : List (WayT × AV)} {lar : Bool} (h : MemoL l m lar) : MidL l i n b m lar 0 m lar :=
  ⟨h, fun h => h, fun x hx => by simp at hx, fun h => .inl h, fun p hp => .inl hp⟩
theorem MidL.succ {l : List Nd} {i : Nat} {n : Nd} {b : Bool} {m m1 m2 : List (WayT × AV)} {lar lar1 lar2 : Bool} {k : Nat} {x : Int} (h : MidL l i n b m lar k m1 lar1) (hx : n.kids[k]? = some x) (hxi : x < (i : Int)) (h1 : MemoL l m2 lar2) (h2 : lar1 = true → lar2 = true) (h3 : larW l (x, b != decide (n.kind = 2)) = true → lar2 = true) (h4 : lar2 = true → lar1 = true ∨ larW l (x, b != decide (n.kind = 2)) = true) (h5 : ∀ p ∈ m2, p ∈ m1 ∨ p.1.1 ≤ x) : MidL l i n b m lar (k + 1) m2 lar2 := by
  have e : n.kids.take (k + 1) = n.kids.take k ++ [x] := take_succ hx
  refine ⟨h1, fun hb => h2 (h.up hb), fun y hy hb => ?_, fun hb => ?_, fun p hp => ?_⟩
  · rw [e, List.mem_append, List.mem_singleton] at hy
    rcases hy with hy | rfl
    · exact h2 (h.kids y hy hb)
    · exact h3 hb
  · rw [e, List.any_append]
    rcases h4 hb with hb | hb
    · rcases h.why hb with hb | hb
      · exact .inl hb
      · exact .inr (by rw [hb, Bool.true_or])
    · exact .inr (by simp [hb])
  · rcases h5 p hp with hp | hp
    · exact h.new p hp
    · exact .inr (by omega)
/-- What is noted, once the lists are made. -/
theorem MidL.fin {l : List Nd} (hd : KidsDown l) {i : Nat} {n : Nd} (hn : l[i]? = some n) {b : Bool} {m m1 : List (WayT × AV)} {lar lar1 : Bool} {C : List (List Tm)} (h : MidL l i n b m lar n.kids.length m1 lar1) (hC : casW l ((i : Int), b) = C) :
    MemoL l m1 (lar1 || larC C) ∧ (lar = true → (lar1 || larC C) = true) ∧ (larW l ((i : Int), b) = true → (lar1 || larC C) = true) ∧ ((lar1 || larC C) = true → lar = true ∨ larW l ((i : Int), b) = true) := by
  have hk := h.kids
  have hy := h.why
  rw [List.take_length] at hk hy
  have el := larW_eq hd hn b
  rw [hC] at el
  refine ⟨h.memo.up fun e => by rw [e]; rfl, fun e => by rw [h.up e]; rfl, fun e => ?_, fun e => ?_⟩
  · rw [el, Bool.or_eq_true] at e
    rcases e with e | e
    · rw [e, Bool.or_true]
    · obtain ⟨x, hx, hb⟩ := List.any_eq_true.1 e
      rw [hk x hx hb]; rfl
  · rw [Bool.or_eq_true] at e
    rcases e with e | e
    · rcases hy e with e | e
      · exact .inl e
      · exact .inr (by rw [el, e, Bool.or_true])
    · exact .inr (by rw [el, e]; rfl)
end Go.AL

/- Cases: the walk that lists. -/
set_option linter.unusedVariables false
set_option linter.unusedSimpArgs false
namespace Go.AL
open Go.Proofs
variable {Γ : Glob}
attribute [local irreducible] codeW opsW dopsW
@[reducible] noncomputable def p224z (Γ : Glob) : Par := par Γ [5, 6, 7, 8, 9, 12, 14] [(9, [false, true]), (11, [false, true]), (1000021, [true]), (2000020, [true, false, false, true]), (2000032, [true, false, false, true]), (36, [false, false, false, false, false, false, false, true])] [(1, [0, 1, 3, 7, 15, 0, 32, 127, 255, 511, 0, 2047]), (3, [0, 1, 3, 7, 0, 31]), (9, [0, 1, 0, 7, 15, 31, 63]), (11, [0, 1, 3, 0, 11, 27, 63, 127]), (13, [0, 1, 3, 7, 0, 31]), (18, [0, 1, 3, 7, 0, 31]), (20, [0, 0, 0, 6, 14, 31, 63]), (30, [0, 1, 3, 7, 0, 31]), (32, [0, 0, 0, 6, 15, 31, 63]), (36, [0, 0, 2, 6, 14, 30, 62, 126, 254, 510, 1023, 2047, 4095])]
theorem ok224z (Γ : Glob) : FnOk (p224z Γ) 224 134 (Tryz.f224.body.getD .skip) Tryz.f224.results.toList 2 := fnOk (par_mixed _ _ _ _) Tryz.func224 rfl rfl rfl (by kernel_rfl) (Nat.le_of_ble_eq_true rfl) (by kernel_rfl)
theorem nd_term {l : List Nd} {k : Nat} {t : Nd} (h : l[k]? = some t) (z : List AV) : TK.part ⟨true, 2, z⟩ (l.flatMap ndC) (k * 4 + 1) = some (tmA t.term) := by
  have hlt := lt_of_getElem? h
  have hs := rows_split ndC_len h
  have hl : (l.flatMap ndC).length = l.length * 4 := rows_length ndC_len
  have e : (l.flatMap ndC).drop (k * 4 + 1) = [slI t.term.coeffs, int t.term.const, slI t.kids] ++ (l.drop (k + 1)).flatMap ndC := by
    rw [← List.drop_drop, hs]
    rfl
  rw [part_t, if_pos (by omega), e]
  rfl
/-- What cases promises at an index. -/
def CasesAt (Γ : Glob) (f : Fm) (bc bm i : Nat) : Prop := ∀ (b : Bool) (m : List (WayT × AV)) (lar : Bool) (σ : Sig) (K : AV → Sig → Prop), badW f.nodes ((i : Int), b) = false → σ bc = some (cntRow f bm lar) → σ bm = some (.map (mapW m)) → MemoL f.nodes m lar →
  (∀ m' lar' σ', MemoL f.nodes m' lar' → (lar = true → lar' = true) → (larW f.nodes ((i : Int), b) = true → lar' = true) → (lar' = true → lar = true ∨ larW f.nodes ((i : Int), b) = true) → (∀ p ∈ m', p ∈ m ∨ p.1.1 ≤ (i : Int)) → σ' bc = some (cntRow f bm lar') → σ' bm = some (.map (mapW m')) →
    Frm bc bm σ σ' → K (slC (casW f.nodes ((i : Int), b))) σ') → ACalls Tryz.prog Γ 147 [.v (.pointer (some ⟨bc, 0, none⟩)), wayA i b] σ K
def MadeAt (Γ : Glob) (f : Fm) (bc bm i : Nat) : Prop := ∀ (b : Bool) (m : List (WayT × AV)) (lar : Bool) (σ : Sig) (K : AV → Sig → Prop), badW f.nodes ((i : Int), b) = false → σ bc = some (cntRow f bm lar) → σ bm = some (.map (mapW m)) → MemoL f.nodes m lar →
  (∀ m' lar' σ', MemoL f.nodes m' lar' → (lar = true → lar' = true) → (larW f.nodes ((i : Int), b) = true → lar' = true) → (lar' = true → lar = true ∨ larW f.nodes ((i : Int), b) = true) → (∀ p ∈ m', p ∈ m ∨ p.1.1 < (i : Int)) → σ' bc = some (cntRow f bm lar') → σ' bm = some (.map (mapW m')) →
    Frm bc bm σ σ' → K (slC (casW f.nodes ((i : Int), b))) σ') → ACalls Tryz.prog Γ 224 [.v (.pointer (some ⟨bc, 0, none⟩)), wayA i b] σ K
end Go.AL

/- Cases: the lists of a way are made. -/
set_option linter.unusedVariables false
set_option linter.unusedSimpArgs false
namespace Go.AL
open Go.Proofs
variable {Γ : Glob}
attribute [local irreducible] codeW opsW dopsW
def FitC (C : List (List Tm)) : Prop := ∀ x ∈ C, ∀ t ∈ x, Fits t.coeffs.length
theorem less_len (t : Tm) (n : Int) : (lessT t n).coeffs.length = t.coeffs.length := by rw [lessT, plusT]; exact plusC_len _ _ _
theorem opp_len (t : Tm) (n : Int) : (oppT t n).coeffs.length = t.coeffs.length := by rw [oppT, plusT]; simp only [plusC_len, List.length_replicate]
theorem fit_prod {A B : List (List Tm)} (ha : FitC A) (hb : FitC B) : FitC (prodC A B) := fun x hx t ht => by
  obtain ⟨a, h1, h2⟩ := List.mem_flatMap.1 hx
  obtain ⟨c, h3, rfl⟩ := List.mem_map.1 h2
  rcases List.mem_append.1 ht with h | h
  · exact ha a h1 t h
  · exact hb c h3 t h
theorem fit_fold : ∀ (S : List (List (List Tm))) (A : List (List Tm)), (∀ C ∈ S, FitC C) → FitC A → FitC (S.foldl prodC A)
  | [], A, _, h => h
  | C :: S, A, h, hA => fit_fold S _ (fun D hD => h D (List.mem_cons_of_mem _ hD)) (fit_prod hA (h C (by simp)))
theorem fit_one {t : Tm} (h : Fits t.coeffs.length) : FitC [[t]] := fun x hx u hu => by
  rw [List.mem_singleton] at hx
  subst hx
  rw [List.mem_singleton] at hu
  subst hu
  exact h
theorem fit_mk {k : Int} {b : Bool} {t : Tm} {S : List (List (List Tm))} (ht : Fits t.coeffs.length) (hS : ∀ C ∈ S, FitC C) : FitC (mkC k b t S) := by
  unfold mkC
  split
  · exact fit_one (by rw [less_len]; split <;> (try rw [opp_len]) <;> exact ht)
  split
  · split
    · intro x hx u hu
      simp only [List.mem_cons, List.not_mem_nil, or_false] at hx
      rcases hx with rfl | rfl
      · exact fit_one (t := lessT t 1) (by rw [less_len]; exact ht) _ (by simp) u hu
      · exact fit_one (t := oppT t (-1)) (by rw [opp_len]; exact ht) _ (by simp) u hu
    · intro x hx u hu
      simp only [List.mem_cons, List.not_mem_nil, or_false] at hx
      subst hx
      simp only [List.mem_cons, List.not_mem_nil, or_false] at hu
      rcases hu with rfl | rfl
      · rw [less_len]; exact ht
      · rw [opp_len]; exact ht
  split
  · rw [List.getLastD_eq_getLast?]
    cases h : S.getLast? with
    | none => intro x hx; cases hx
    | some C => exact hS C (List.mem_of_getLast? h)
  split
  · split
    · intro x hx; cases hx
    · exact fit_fold S _ hS (fun x hx u hu => by
        rw [List.mem_singleton] at hx
        subst hx
        cases hu)
  split
  · intro x hx
    obtain ⟨C, h1, h2⟩ := List.mem_flatten.1 hx
    exact hS C h1 x h2
  · intro x hx; cases hx
theorem cas_fit {l : List Nd} (hd : KidsDown l) (hc : ∀ n ∈ l, NdFit n) : ∀ (N i : Nat) (b : Bool) (n : Nd), i < N → l[i]? = some n → FitC (casW l ((i : Int), b))
  | 0, _, _, _, h, _ => by omega
  | N + 1, i, b, n, hi, hn => by
    rw [casW_eq hd hn]
    refine fit_mk (hc n (mem_of_get hn)).1 fun C hC => ?_
    obtain ⟨x, hx, rfl⟩ := List.mem_map.1 hC
    have hxr := hd i n hn x hx
    obtain ⟨j, rfl⟩ := Int.eq_ofNat_of_zero_le hxr.1
    obtain ⟨nc, hnc⟩ : ∃ nc, l[j]? = some nc := ⟨l[j]'(by have := lt_of_getElem? hn; omega), List.getElem?_eq_getElem _⟩
    exact cas_fit hd hc N j _ nc (by omega) hnc
theorem callB_gen {P : Program} {Γ : Glob} {fv : AV} {args : List AV} {σ : Sig} {K : AV → Sig → Prop} (Q : Sig → Prop) (h : Q σ) (k : ∀ τ, Q τ → callB P Γ fv args τ K) : callB P Γ fv args σ K := k σ h
theorem any_take {l : List Tm} {k : Nat} {x : Tm} (h : l[k]? = some x) : (l.take (k + 1)).any larT = ((l.take k).any larT || larT x) := by rw [take_succ h, List.any_append]; simp
theorem xcallB_a {P : Program} {Γ : Glob} {f : FuncId} {a c args args' : List AV} {σ : Sig} {K : AV → Sig → Prop} (h : ACalls P Γ f args' σ fun r σ' => Keep1 σ σ' ∧ K r σ') (he : args' = a ++ args ++ c) : xcallB P Γ (.fn (.func f) a c) args σ K := callB_a h he
theorem Frm.keep1 {bc bm : Nat} {σ σ' : Sig} {cs : List AV} {c : Nat} {es : List (AV × AV)} (hbc : σ bc = some (.row cs 4 c)) (hbm : σ bm = some (.map es)) (h : Frm bc bm σ σ') : Keep1 σ σ' := fun b cs' c' hb =>
  h b _ (fun e => by rw [e, hbc] at hb; cases hb) (fun e => by rw [e, hbm] at hb; cases hb) hb
theorem Grow.keep1 {σ0 σ σ' : Sig} {a : AV} {cs : List AV} {n : Nat} (h : Grow σ0 σ 1 a cs n) (hk : Keep1 σ σ') : Grow σ0 σ' 1 a cs n := by
  rcases h with h | ⟨b, c, h0, h1, h2, h3⟩
  · exact .inl h
  · exact .inr ⟨b, c, h0, h1, hk _ _ _ h2, h3⟩
/-- The blocks that stay. -/
def bas (bc bm : Nat) (σ : Sig) : Sig := fun x => if x = bc ∨ x = bm then none else σ x
theorem Frm.drop {bc bm : Nat} {σ σ' : Sig} (h : Frm bc bm σ σ') : Drop σ' (bas bc bm σ) := fun x => by
  unfold bas
  split
  · exact .inl rfl
  · rename_i hh
    cases hx : σ x with
    | none => exact .inl rfl
    | some y => exact .inr (h x y (fun e => hh (.inl e)) (fun e => hh (.inr e)) hx).symm
theorem Frm.of_drop {bc bm : Nat} {σ σ' : Sig} (h : Drop σ' (bas bc bm σ)) : Frm bc bm σ σ' := fun x y h1 h2 h3 => by
  have hb : bas bc bm σ x = some y := by rw [bas, if_neg (by rintro (e | e) <;> contradiction)]; exact h3
  rcases h x with hx | hx
  · rw [hb] at hx; cases hx
  · rw [hb] at hx; exact hx.symm
theorem Grow.neM {σ0 σ : Sig} {s n b : Nat} {a : AV} {cs : List AV} {es : List (AV × AV)} (h : Grow σ0 σ s a cs n) (hb : σ b = some (.map es)) : ∀ s1 o m, a ≠ .own b s1 o m := fun s1 o m e => by
  rcases h with ⟨h, _⟩ | ⟨b', c, h0, h1, h2, h3⟩
  · rcases h with h | h <;> rw [h] at e <;> cases e
  · rw [h0] at e
    cases e
    rw [hb] at h2
    cases h2
theorem Grow.neB {σ0 σ : Sig} {s n b : Nat} {a : AV} {cs : List AV} (h : Grow σ0 σ s a cs n) (hb : σ0 b ≠ none) : ∀ s1 o m, a ≠ .own b s1 o m := fun s1 o m e => by
  rcases h with ⟨h, _⟩ | ⟨b', c, h0, h1, h2, h3⟩
  · rcases h with h | h <;> rw [h] at e <;> cases e
  · rw [h0] at e
    cases e
    exact hb h1
/-- A variable that holds a row that grew: both are told as frozen. -/
theorem frzB_grow2 {x : Bool} {l : List Bool} {ρ : Env} {σ σ0 : Sig} {K : Env → Sig → Prop} {s n : Nat} {a : AV} {cs : List AV} (t b : Nat) (hρ : ρ t = .v (.pointer (some ⟨b, 0, none⟩))) (hb : σ b = some (.row [a] 1 1)) (hG : Grow σ0 σ s a cs n) (hne : ∀ s o m, a ≠ .own b s o m)
    (hk : ∀ σ', Drop σ σ' → (∀ y, y ≠ b → (∀ s o m, a ≠ .own y s o m) → σ' y = σ y) → K (upd ρ t (.pp [.sl cs n] 0)) σ') : frzB (x :: l) ρ σ K := by
  rcases hG with ⟨h, rfl, rfl⟩ | ⟨b', c, rfl, h1, h2, h3⟩
  · refine ⟨_, ers σ b, Drop.ers σ b, fun i => ?_, hk _ (Drop.ers σ b) fun y hy _ => ers_ne _ _ _ hy⟩
    by_cases hi : i = t
    · subst hi
      rw [hρ, upd_same]
      refine .ptr hb (ers_same _ _) (.cons ?_ .nil)
      rcases h with rfl | rfl
      · exact .nil
      · exact .e0
    · rw [upd_ne _ _ _ _ hi]; exact .refl _
  · have hbb : b' ≠ b := fun e => hne s 0 n (by rw [e])
    have hD : Drop σ (ers (ers σ b) b') := Drop.trans (Drop.ers σ b) (Drop.ers _ b')
    refine ⟨_, ers (ers σ b) b', hD, fun i => ?_, hk _ hD fun y hy hy2 => ?_⟩
    · by_cases hi : i = t
      · subst hi
        rw [hρ, upd_same]
        refine .ptr hb (by rw [ers_ne _ _ _ (Ne.symm hbb)]; exact ers_same _ _) (.cons (.own h2 (ers_same _ _) ?_) .nil)
        have : (cs.drop (0 * s)).take (n * s) = cs := by simp [← h3]
        rw [this]
        exact .refl cs
      · rw [upd_ne _ _ _ _ hi]; exact .refl _
    · rw [ers_ne _ _ _ (fun e => hy2 s 0 n (by rw [e])), ers_ne _ _ _ hy]
theorem slC_ne {l : List (List (List Tm))} : l.map slC ≠ [.v (.slice none 0 0)] := fun e => by
  cases l with
  | nil => cases e
  | cons x l => rw [List.map_cons, slC] at e; injection e with e _; cases e
theorem slC_neG {σ0 σ : Sig} {s n : Nat} {a : AV} {cs : List AV} (h : Grow σ0 σ s a cs n) {l : List (List (List Tm))} : l.map slC ≠ [a] := fun e => by
  cases l with
  | nil => cases e
  | cons x l =>
    rw [List.map_cons, slC] at e
    injection e with e _
    rcases h with ⟨h, _⟩ | ⟨b', c, h0, h1, h2, h3⟩
    · rcases h with h | h <;> rw [h] at e <;> cases e
    · rw [h0] at e; cases e
theorem subW_get {l : List Nd} {n : Nd} {b : Bool} {k : Nat} {x : Int} (h : n.kids[k]? = some x) : (subW l n b)[k]? = some (casW l (x, b != decide (n.kind = 2))) := by simp [subW, h]
theorem subW_len {l : List Nd} {n : Nd} {b : Bool} : (subW l n b).length = n.kids.length := by simp [subW]
set_option maxHeartbeats 4000000 in
set_option maxRecDepth 20000 in
theorem f224 (f : Fm) (hl : Fits f.nodes.length) (hc : ∀ n ∈ f.nodes, NdFit n) (hok : ∀ k n, f.nodes[k]? = some n → NodeOk n k f.vars) (bc bm i : Nat) (n : Nd) (hn : f.nodes[i]? = some n) (ih : ∀ j, j < i → CasesAt Γ f bc bm j) : MadeAt Γ f bc bm i := by
  intro b m lar σ K hbad hbc hbm hm hK
  have hd := hdown hok
  have hok1 := hok i n hn
  have hcn := hc n (mem_of_get hn)
  have hkf := hcn.2
  have hlt := lt_of_getElem? hn
  have kbc : ¬ bm = bc := fun e => by rw [e, hbc] at hbm; cases hbm
  have kbc' : ¬ bc = bm := fun e => kbc e.symm
  have hbc' : σ bc = some (.row [int f.vars, slN f.nodes, .v (.map (some bm)), .v (.bool lar)] 4 1) := hbc
  obtain ⟨cl1, cl2, _⟩ := (cnt_cas hd hok (i + 1) i b n (by omega) hn).2 hbad
  have hCe := casW_eq hd hn b
  refine ACalls.retK (acalls (ok224z Γ) ?_)
  simp only [go_sem, xQ, ↓reduceIte, xA, xM, xL, xT, xE, xN, xP, xR, xS, Tryz.f224, hbc', hlt, ↓nd_term hn]
  intro b5 hb5
  have m5 : ¬ bc = b5 := nn hb5 hbc
  have m5' : ¬ b5 = bc := fun e => m5 e.symm
  have k5 : ¬ bm = b5 := nn hb5 hbm
  have k5' : ¬ b5 = bm := fun e => k5 e.symm
  simp only [go_sem, xQ, ↓reduceIte, xA, xM, xL, xT, xE, xN, xP, xR, xS, hbc', hlt, ↓nd_term hn, m5, m5', k5, k5']
  intro b6 hb6
  obtain ⟨n65, hb6⟩ := un hb6
  have n65' : ¬ b5 = b6 := fun e => n65 e.symm
  have m6 : ¬ bc = b6 := nn hb6 hbc
  have m6' : ¬ b6 = bc := fun e => m6 e.symm
  have k6 : ¬ bm = b6 := nn hb6 hbm
  have k6' : ¬ b6 = bm := fun e => k6 e.symm
  simp only [go_sem, xQ, ↓reduceIte, xA, xM, xL, xT, xE, xN, xP, xR, xS, hbc', m5, m5', k5, k5', n65, n65', m6, m6', k6, k6']
  refine callB_use (f222 f i b n hn) rfl ?_
  simp only [go_sem, xQ, ↓reduceIte, xA, xM, xL, xT, xE, xN, xP, xR, xS, hbc', m5, m5', k5, k5', n65, n65', m6, m6', k6, k6']
  rcases kindW_cases hok1 b with hk | hk | hk | hk | hk
  · have hkids : n.kids = [] := (hok1.term (by unfold kindW at hk; split at hk <;> omega)).2.2
    have hMM : MidL f.nodes i n b m lar n.kids.length m lar := by rw [hkids]; exact MidL.zero hm
    cases b with
    | true =>
      simp only [go_sem, xQ, ↓reduceIte, xA, xM, xL, xT, xE, xN, xP, xR, xS, hbc', m5, m5', k5, k5', n65, n65', m6, m6', k6, k6', hk]
      refine callB_use (f169 n.term (-1) hcn.1) rfl ?_
      simp only [go_sem, xQ, ↓reduceIte, xA, xM, xL, xT, xE, xN, xP, xR, xS, hbc', m5, m5', k5, k5', n65, n65', m6, m6', k6, k6', hk]
      refine callB_use (f253 (oppT n.term (-1)) 0 (by rw [opp_len]; exact hcn.1)) rfl ?_
      simp only [go_sem, xQ, ↓reduceIte, xA, xM, xL, xT, xE, xN, xP, xR, xS, hbc', m5, m5', k5, k5', n65, n65', m6, m6', k6, k6', hk]
      obtain ⟨C, hCC, hC0⟩ : ∃ C, casW f.nodes ((i : Int), true) = C ∧ C = [[lessT (oppT n.term (-1)) 0]] := ⟨_, rfl, by rw [hCe, hk]; rfl⟩
      rw [hCC] at cl1 cl2
      have hz : ∀ σ σ' : Sig, Fz σ σ' (slC [[lessT (oppT n.term (-1)) 0]]) (slC C) := fun σ σ' => by rw [hC0]; exact .refl _
      refine callB_gen (fun τ => τ bc = some (cntRow f bm lar) ∧ τ bm = some (.map (mapW m)) ∧ τ b6 = some (.row [slC [[lessT (oppT n.term (-1)) 0]]] 1 1) ∧ Frm bc bm σ τ) ⟨?_, ?_, ?_, ?_⟩ (fun τ ⟨qc, qm, q6, hF⟩ => ?_)
      · simp only [upd, m5, m6, if_false]; exact hbc
      · simp only [upd, k5, k6, if_false]; exact hbm
      · simp only [upd, if_true]; rfl
      · repeat (first | exact Frm.refl | refine Frm.new ?_ hb5 _ | refine Frm.new ?_ hb6 _)
      have hfl : C.flatten.length ≤ 64 * 32 := Nat.le_trans (flat_max C) (Nat.mul_le_mul cl1 cl2)
      refine callB_fz (f258 C (by omega) (by omega)) (.cons (hz _ _) .nil) ?_
      simp only [go_sem, xQ, ↓reduceIte, xA, xM, xL, xT, xE, xN, xP, xR, xS]
      refine SemC.loopK mixed C.flatten.length (fun k ρ σ2 ds => (ds = [] ∧ ρ 2 = .pp [.v (.pointer (some ⟨bc, 0, none⟩))] 0 ∧ ρ 6 = .v (.pointer (some ⟨b6, 0, none⟩)) ∧ ρ 114 = slT C.flatten ∧ ρ 115 = int C.flatten.length ∧ ρ 116 = int k) ∧ σ2 bc = some (cntRow f bm (lar || (C.flatten.take k).any larT)) ∧ σ2 bm = some (.map (mapW m)) ∧ σ2 b6 = some (.row [slC [[lessT (oppT n.term (-1)) 0]]] 1 1) ∧  Frm bc bm σ σ2) (by kernel_rfl) ⟨⟨rfl, by simp only [go_sem, xQ, ↓reduceIte, xA, xM, xL, xT, xE, xN, xP, xR, xS], by simp only [go_sem, xQ, ↓reduceIte, xA, xM, xL, xT, xE, xN, xP, xR, xS], rfl, rfl, rfl⟩, by simpa using qc, qm, q6,  hF⟩ ?_
      rintro k ρ σ2 ds hk ⟨⟨rfl, h2, h6, h114, h115, h116⟩, pc, pm, p6,  pF⟩
      rcases get_or_end C.flatten k hk with ⟨x, hx, hlt2, hd2⟩ | hk2
      · have hxf : Fits x.coeffs.length := by
          obtain ⟨y, h1, h2⟩ := List.mem_flatten.1 (mem_of_get hx)
          have := cas_fit hd hc (i + 1) i true n (by omega) hn
          rw [hCC] at this
          exact this y h1 x h2
        rw [any_take hx]
        generalize hzz : (lar || (C.flatten.take k).any larT) = z at pc
        have pc' : σ2 bc = some (.row [int f.vars, slN f.nodes, .v (.map (some bm)), .v (.bool z)] 4 1) := pc
        simp only [go_sem, xQ, ↓reduceIte, xA, xM, xL, xT, xE, xN, xP, xR, xS, h2, h6, h114, h115, h116, hlt2, ↓tm_part hx]
        intro b14 hb14
        have y6 : ¬ b6 = b14 := nn hb14 p6
        have yc : ¬ bc = b14 := nn hb14 pc
        have ym : ¬ bm = b14 := nn hb14 pm
        have yc' : ¬ b14 = bc := fun e => yc e.symm
        skip
        cases z with
        | true =>
          simp only [go_sem, xQ, ↓reduceIte, xA, xM, xL, xT, xE, xN, xP, xR, xS, h2, h6, h114, h115, h116, hlt2, ↓tm_part hx, pc', y6, yc, yc', ym]
          refine ⟨by rw [wrap_succ _ (by omega)], by rw [← Bool.or_assoc, hzz]; rfl, ?_⟩
          simp only [go_sem, xQ, ↓reduceIte, xA, xM, xL, xT, xE, xN, xP, xR, xS, ym, y6, pm, p6, m6', kbc, pm]
          exact (pF.fresh hb14 _).own (.inl rfl) _
        | false =>
          simp only [go_sem, xQ, ↓reduceIte, xA, xM, xL, xT, xE, xN, xP, xR, xS, h2, h6, h114, h115, h116, hlt2, ↓tm_part hx, pc', y6, yc, yc', ym]
          refine dcallB_use (f159 x hxf) rfl ?_
          simp only [go_sem, xQ, ↓reduceIte, xA, xM, xL, xT, xE, xN, xP, xR, xS, h2, h6, h114, h115, h116, hlt2, ↓tm_part hx, pc', y6, yc, yc', ym]
          refine ⟨by rw [wrap_succ _ (by omega)], by rw [← Bool.or_assoc, hzz, larT, Bool.false_or, decide_not]; rfl, ?_⟩
          simp only [go_sem, xQ, ↓reduceIte, xA, xM, xL, xT, xE, xN, xP, xR, xS, ym, y6, pm, p6, m6', kbc, pm]
          exact (pF.fresh hb14 _).own (.inl rfl) _
      · subst hk2
        rw [List.take_length] at pc
        simp only [go_sem, xQ, ↓reduceIte, xA, xM, xL, xT, xE, xN, xP, xR, xS, h2, h6, h114, h115, h116, Nat.lt_irrefl, p6, p6]
        obtain ⟨w1, w2, w3, w4⟩ := hMM.fin hd hn hCC
        exact ⟨slC C, _, hz _ _, Drop.refl _, hCC ▸ hK m (lar || larC C) _ w1 w2 w3 w4 hMM.new pc pm pF⟩
    | false =>
      simp only [go_sem, xQ, ↓reduceIte, xA, xM, xL, xT, xE, xN, xP, xR, xS, hbc', m5, m5', k5, k5', n65, n65', m6, m6', k6, k6', hk]
      refine callB_use (f253 n.term 0 hcn.1) rfl ?_
      simp only [go_sem, xQ, ↓reduceIte, xA, xM, xL, xT, xE, xN, xP, xR, xS, hbc', m5, m5', k5, k5', n65, n65', m6, m6', k6, k6', hk]
      obtain ⟨C, hCC, hC0⟩ : ∃ C, casW f.nodes ((i : Int), false) = C ∧ C = [[lessT n.term 0]] := ⟨_, rfl, by rw [hCe, hk]; rfl⟩
      rw [hCC] at cl1 cl2
      have hz : ∀ σ σ' : Sig, Fz σ σ' (slC [[lessT n.term 0]]) (slC C) := fun σ σ' => by rw [hC0]; exact .refl _
      refine callB_gen (fun τ => τ bc = some (cntRow f bm lar) ∧ τ bm = some (.map (mapW m)) ∧ τ b6 = some (.row [slC [[lessT n.term 0]]] 1 1) ∧ Frm bc bm σ τ) ⟨?_, ?_, ?_, ?_⟩ (fun τ ⟨qc, qm, q6, hF⟩ => ?_)
      · simp only [upd, m5, m6, if_false]; exact hbc
      · simp only [upd, k5, k6, if_false]; exact hbm
      · simp only [upd, if_true]; rfl
      · repeat (first | exact Frm.refl | refine Frm.new ?_ hb5 _ | refine Frm.new ?_ hb6 _)
      have hfl : C.flatten.length ≤ 64 * 32 := Nat.le_trans (flat_max C) (Nat.mul_le_mul cl1 cl2)
      refine callB_fz (f258 C (by omega) (by omega)) (.cons (hz _ _) .nil) ?_
      simp only [go_sem, xQ, ↓reduceIte, xA, xM, xL, xT, xE, xN, xP, xR, xS]
      refine SemC.loopK mixed C.flatten.length (fun k ρ σ2 ds => (ds = [] ∧ ρ 2 = .pp [.v (.pointer (some ⟨bc, 0, none⟩))] 0 ∧ ρ 6 = .v (.pointer (some ⟨b6, 0, none⟩)) ∧ ρ 114 = slT C.flatten ∧ ρ 115 = int C.flatten.length ∧ ρ 116 = int k) ∧ σ2 bc = some (cntRow f bm (lar || (C.flatten.take k).any larT)) ∧ σ2 bm = some (.map (mapW m)) ∧ σ2 b6 = some (.row [slC [[lessT n.term 0]]] 1 1) ∧  Frm bc bm σ σ2) (by kernel_rfl) ⟨⟨rfl, by simp only [go_sem, xQ, ↓reduceIte, xA, xM, xL, xT, xE, xN, xP, xR, xS], by simp only [go_sem, xQ, ↓reduceIte, xA, xM, xL, xT, xE, xN, xP, xR, xS], rfl, rfl, rfl⟩, by simpa using qc, qm, q6,  hF⟩ ?_
      rintro k ρ σ2 ds hk ⟨⟨rfl, h2, h6, h114, h115, h116⟩, pc, pm, p6,  pF⟩
      rcases get_or_end C.flatten k hk with ⟨x, hx, hlt2, hd2⟩ | hk2
      · have hxf : Fits x.coeffs.length := by
          obtain ⟨y, h1, h2⟩ := List.mem_flatten.1 (mem_of_get hx)
          have := cas_fit hd hc (i + 1) i false n (by omega) hn
          rw [hCC] at this
          exact this y h1 x h2
        rw [any_take hx]
        generalize hzz : (lar || (C.flatten.take k).any larT) = z at pc
        have pc' : σ2 bc = some (.row [int f.vars, slN f.nodes, .v (.map (some bm)), .v (.bool z)] 4 1) := pc
        simp only [go_sem, xQ, ↓reduceIte, xA, xM, xL, xT, xE, xN, xP, xR, xS, h2, h6, h114, h115, h116, hlt2, ↓tm_part hx]
        intro b14 hb14
        have y6 : ¬ b6 = b14 := nn hb14 p6
        have yc : ¬ bc = b14 := nn hb14 pc
        have ym : ¬ bm = b14 := nn hb14 pm
        have yc' : ¬ b14 = bc := fun e => yc e.symm
        skip
        cases z with
        | true =>
          simp only [go_sem, xQ, ↓reduceIte, xA, xM, xL, xT, xE, xN, xP, xR, xS, h2, h6, h114, h115, h116, hlt2, ↓tm_part hx, pc', y6, yc, yc', ym]
          refine ⟨by rw [wrap_succ _ (by omega)], by rw [← Bool.or_assoc, hzz]; rfl, ?_⟩
          simp only [go_sem, xQ, ↓reduceIte, xA, xM, xL, xT, xE, xN, xP, xR, xS, ym, y6, pm, p6, m6', kbc, pm]
          exact (pF.fresh hb14 _).own (.inl rfl) _
        | false =>
          simp only [go_sem, xQ, ↓reduceIte, xA, xM, xL, xT, xE, xN, xP, xR, xS, h2, h6, h114, h115, h116, hlt2, ↓tm_part hx, pc', y6, yc, yc', ym]
          refine dcallB_use (f159 x hxf) rfl ?_
          simp only [go_sem, xQ, ↓reduceIte, xA, xM, xL, xT, xE, xN, xP, xR, xS, h2, h6, h114, h115, h116, hlt2, ↓tm_part hx, pc', y6, yc, yc', ym]
          refine ⟨by rw [wrap_succ _ (by omega)], by rw [← Bool.or_assoc, hzz, larT, Bool.false_or, decide_not]; rfl, ?_⟩
          simp only [go_sem, xQ, ↓reduceIte, xA, xM, xL, xT, xE, xN, xP, xR, xS, ym, y6, pm, p6, m6', kbc, pm]
          exact (pF.fresh hb14 _).own (.inl rfl) _
      · subst hk2
        rw [List.take_length] at pc
        simp only [go_sem, xQ, ↓reduceIte, xA, xM, xL, xT, xE, xN, xP, xR, xS, h2, h6, h114, h115, h116, Nat.lt_irrefl, p6, p6]
        obtain ⟨w1, w2, w3, w4⟩ := hMM.fin hd hn hCC
        exact ⟨slC C, _, hz _ _, Drop.refl _, hCC ▸ hK m (lar || larC C) _ w1 w2 w3 w4 hMM.new pc pm pF⟩
  · have hkids : n.kids = [] := (hok1.term (by unfold kindW at hk; split at hk <;> omega)).2.2
    have hMM : MidL f.nodes i n b m lar n.kids.length m lar := by rw [hkids]; exact MidL.zero hm
    have e10 : ((1 : Int) = 0) = False := eq_false (by decide)
    cases b with
    | true =>
      simp only [go_sem, xQ, ↓reduceIte, xA, xM, xL, xT, xE, xN, xP, xR, xS, hbc', m5, m5', k5, k5', n65, n65', m6, m6', k6, k6', hk, e10]
      refine dcallB_use (f253 n.term 0 hcn.1) rfl ?_
      simp only [go_sem, xQ, ↓reduceIte, xA, xM, xL, xT, xE, xN, xP, xR, xS, hbc', m5, m5', k5, k5', n65, n65', m6, m6', k6, k6', hk]
      refine callB_use (f169 n.term 0 hcn.1) rfl ?_
      simp only [go_sem, xQ, ↓reduceIte, xA, xM, xL, xT, xE, xN, xP, xR, xS, hbc', m5, m5', k5, k5', n65, n65', m6, m6', k6, k6', hk]
      refine dcallB_use (f253 n.term 1 hcn.1) rfl ?_
      simp only [go_sem, xQ, ↓reduceIte, xA, xM, xL, xT, xE, xN, xP, xR, xS, hbc', m5, m5', k5, k5', n65, n65', m6, m6', k6, k6', hk]
      refine callB_use (f169 n.term (-1) hcn.1) rfl ?_
      simp only [go_sem, xQ, ↓reduceIte, xA, xM, xL, xT, xE, xN, xP, xR, xS, hbc', m5, m5', k5, k5', n65, n65', m6, m6', k6, k6', hk]
      obtain ⟨C, hCC, hC0⟩ : ∃ C, casW f.nodes ((i : Int), true) = C ∧ C = [[lessT n.term 1], [oppT n.term (-1)]] := ⟨_, rfl, by rw [hCe, hk]; rfl⟩
      rw [hCC] at cl1 cl2
      have hz : ∀ σ σ' : Sig, Fz σ σ' (slC [[lessT n.term 1], [oppT n.term (-1)]]) (slC C) := fun σ σ' => by rw [hC0]; exact .refl _
      refine callB_gen (fun τ => τ bc = some (cntRow f bm lar) ∧ τ bm = some (.map (mapW m)) ∧ τ b6 = some (.row [slC [[lessT n.term 1], [oppT n.term (-1)]]] 1 1) ∧ Frm bc bm σ τ) ⟨?_, ?_, ?_, ?_⟩ (fun τ ⟨qc, qm, q6, hF⟩ => ?_)
      · simp only [upd, m5, m6, if_false]; exact hbc
      · simp only [upd, k5, k6, if_false]; exact hbm
      · simp only [upd, if_true]; rfl
      · repeat (first | exact Frm.refl | refine Frm.new ?_ hb5 _ | refine Frm.new ?_ hb6 _)
      have hfl : C.flatten.length ≤ 64 * 32 := Nat.le_trans (flat_max C) (Nat.mul_le_mul cl1 cl2)
      refine callB_fz (f258 C (by omega) (by omega)) (.cons (hz _ _) .nil) ?_
      simp only [go_sem, xQ, ↓reduceIte, xA, xM, xL, xT, xE, xN, xP, xR, xS]
      refine SemC.loopK mixed C.flatten.length (fun k ρ σ2 ds => (ds = [] ∧ ρ 2 = .pp [.v (.pointer (some ⟨bc, 0, none⟩))] 0 ∧ ρ 6 = .v (.pointer (some ⟨b6, 0, none⟩)) ∧ ρ 114 = slT C.flatten ∧ ρ 115 = int C.flatten.length ∧ ρ 116 = int k) ∧ σ2 bc = some (cntRow f bm (lar || (C.flatten.take k).any larT)) ∧ σ2 bm = some (.map (mapW m)) ∧ σ2 b6 = some (.row [slC [[lessT n.term 1], [oppT n.term (-1)]]] 1 1) ∧  Frm bc bm σ σ2) (by kernel_rfl) ⟨⟨rfl, by simp only [go_sem, xQ, ↓reduceIte, xA, xM, xL, xT, xE, xN, xP, xR, xS], by simp only [go_sem, xQ, ↓reduceIte, xA, xM, xL, xT, xE, xN, xP, xR, xS], rfl, rfl, rfl⟩, by simpa using qc, qm, q6,  hF⟩ ?_
      rintro k ρ σ2 ds hk ⟨⟨rfl, h2, h6, h114, h115, h116⟩, pc, pm, p6,  pF⟩
      rcases get_or_end C.flatten k hk with ⟨x, hx, hlt2, hd2⟩ | hk2
      · have hxf : Fits x.coeffs.length := by
          obtain ⟨y, h1, h2⟩ := List.mem_flatten.1 (mem_of_get hx)
          have := cas_fit hd hc (i + 1) i true n (by omega) hn
          rw [hCC] at this
          exact this y h1 x h2
        rw [any_take hx]
        generalize hzz : (lar || (C.flatten.take k).any larT) = z at pc
        have pc' : σ2 bc = some (.row [int f.vars, slN f.nodes, .v (.map (some bm)), .v (.bool z)] 4 1) := pc
        simp only [go_sem, xQ, ↓reduceIte, xA, xM, xL, xT, xE, xN, xP, xR, xS, h2, h6, h114, h115, h116, hlt2, ↓tm_part hx]
        intro b14 hb14
        have y6 : ¬ b6 = b14 := nn hb14 p6
        have yc : ¬ bc = b14 := nn hb14 pc
        have ym : ¬ bm = b14 := nn hb14 pm
        have yc' : ¬ b14 = bc := fun e => yc e.symm
        skip
        cases z with
        | true =>
          simp only [go_sem, xQ, ↓reduceIte, xA, xM, xL, xT, xE, xN, xP, xR, xS, h2, h6, h114, h115, h116, hlt2, ↓tm_part hx, pc', y6, yc, yc', ym]
          refine ⟨by rw [wrap_succ _ (by omega)], by rw [← Bool.or_assoc, hzz]; rfl, ?_⟩
          simp only [go_sem, xQ, ↓reduceIte, xA, xM, xL, xT, xE, xN, xP, xR, xS, ym, y6, pm, p6, m6', kbc, pm]
          exact (pF.fresh hb14 _).own (.inl rfl) _
        | false =>
          simp only [go_sem, xQ, ↓reduceIte, xA, xM, xL, xT, xE, xN, xP, xR, xS, h2, h6, h114, h115, h116, hlt2, ↓tm_part hx, pc', y6, yc, yc', ym]
          refine dcallB_use (f159 x hxf) rfl ?_
          simp only [go_sem, xQ, ↓reduceIte, xA, xM, xL, xT, xE, xN, xP, xR, xS, h2, h6, h114, h115, h116, hlt2, ↓tm_part hx, pc', y6, yc, yc', ym]
          refine ⟨by rw [wrap_succ _ (by omega)], by rw [← Bool.or_assoc, hzz, larT, Bool.false_or, decide_not]; rfl, ?_⟩
          simp only [go_sem, xQ, ↓reduceIte, xA, xM, xL, xT, xE, xN, xP, xR, xS, ym, y6, pm, p6, m6', kbc, pm]
          exact (pF.fresh hb14 _).own (.inl rfl) _
      · subst hk2
        rw [List.take_length] at pc
        simp only [go_sem, xQ, ↓reduceIte, xA, xM, xL, xT, xE, xN, xP, xR, xS, h2, h6, h114, h115, h116, Nat.lt_irrefl, p6, p6]
        obtain ⟨w1, w2, w3, w4⟩ := hMM.fin hd hn hCC
        exact ⟨slC C, _, hz _ _, Drop.refl _, hCC ▸ hK m (lar || larC C) _ w1 w2 w3 w4 hMM.new pc pm pF⟩
    | false =>
      simp only [go_sem, xQ, ↓reduceIte, xA, xM, xL, xT, xE, xN, xP, xR, xS, hbc', m5, m5', k5, k5', n65, n65', m6, m6', k6, k6', hk, e10]
      refine dcallB_use (f253 n.term 0 hcn.1) rfl ?_
      simp only [go_sem, xQ, ↓reduceIte, xA, xM, xL, xT, xE, xN, xP, xR, xS, hbc', m5, m5', k5, k5', n65, n65', m6, m6', k6, k6', hk]
      refine callB_use (f169 n.term 0 hcn.1) rfl ?_
      simp only [go_sem, xQ, ↓reduceIte, xA, xM, xL, xT, xE, xN, xP, xR, xS, hbc', m5, m5', k5, k5', n65, n65', m6, m6', k6, k6', hk]
      obtain ⟨C, hCC, hC0⟩ : ∃ C, casW f.nodes ((i : Int), false) = C ∧ C = [[lessT n.term 0, oppT n.term 0]] := ⟨_, rfl, by rw [hCe, hk]; rfl⟩
      rw [hCC] at cl1 cl2
      have hz : ∀ σ σ' : Sig, Fz σ σ' (slC [[lessT n.term 0, oppT n.term 0]]) (slC C) := fun σ σ' => by rw [hC0]; exact .refl _
      refine callB_gen (fun τ => τ bc = some (cntRow f bm lar) ∧ τ bm = some (.map (mapW m)) ∧ τ b6 = some (.row [slC [[lessT n.term 0, oppT n.term 0]]] 1 1) ∧ Frm bc bm σ τ) ⟨?_, ?_, ?_, ?_⟩ (fun τ ⟨qc, qm, q6, hF⟩ => ?_)
      · simp only [upd, m5, m6, if_false]; exact hbc
      · simp only [upd, k5, k6, if_false]; exact hbm
      · simp only [upd, if_true]; rfl
      · repeat (first | exact Frm.refl | refine Frm.new ?_ hb5 _ | refine Frm.new ?_ hb6 _)
      have hfl : C.flatten.length ≤ 64 * 32 := Nat.le_trans (flat_max C) (Nat.mul_le_mul cl1 cl2)
      refine callB_fz (f258 C (by omega) (by omega)) (.cons (hz _ _) .nil) ?_
      simp only [go_sem, xQ, ↓reduceIte, xA, xM, xL, xT, xE, xN, xP, xR, xS]
      refine SemC.loopK mixed C.flatten.length (fun k ρ σ2 ds => (ds = [] ∧ ρ 2 = .pp [.v (.pointer (some ⟨bc, 0, none⟩))] 0 ∧ ρ 6 = .v (.pointer (some ⟨b6, 0, none⟩)) ∧ ρ 114 = slT C.flatten ∧ ρ 115 = int C.flatten.length ∧ ρ 116 = int k) ∧ σ2 bc = some (cntRow f bm (lar || (C.flatten.take k).any larT)) ∧ σ2 bm = some (.map (mapW m)) ∧ σ2 b6 = some (.row [slC [[lessT n.term 0, oppT n.term 0]]] 1 1) ∧  Frm bc bm σ σ2) (by kernel_rfl) ⟨⟨rfl, by simp only [go_sem, xQ, ↓reduceIte, xA, xM, xL, xT, xE, xN, xP, xR, xS], by simp only [go_sem, xQ, ↓reduceIte, xA, xM, xL, xT, xE, xN, xP, xR, xS], rfl, rfl, rfl⟩, by simpa using qc, qm, q6,  hF⟩ ?_
      rintro k ρ σ2 ds hk ⟨⟨rfl, h2, h6, h114, h115, h116⟩, pc, pm, p6,  pF⟩
      rcases get_or_end C.flatten k hk with ⟨x, hx, hlt2, hd2⟩ | hk2
      · have hxf : Fits x.coeffs.length := by
          obtain ⟨y, h1, h2⟩ := List.mem_flatten.1 (mem_of_get hx)
          have := cas_fit hd hc (i + 1) i false n (by omega) hn
          rw [hCC] at this
          exact this y h1 x h2
        rw [any_take hx]
        generalize hzz : (lar || (C.flatten.take k).any larT) = z at pc
        have pc' : σ2 bc = some (.row [int f.vars, slN f.nodes, .v (.map (some bm)), .v (.bool z)] 4 1) := pc
        simp only [go_sem, xQ, ↓reduceIte, xA, xM, xL, xT, xE, xN, xP, xR, xS, h2, h6, h114, h115, h116, hlt2, ↓tm_part hx]
        intro b14 hb14
        have y6 : ¬ b6 = b14 := nn hb14 p6
        have yc : ¬ bc = b14 := nn hb14 pc
        have ym : ¬ bm = b14 := nn hb14 pm
        have yc' : ¬ b14 = bc := fun e => yc e.symm
        skip
        cases z with
        | true =>
          simp only [go_sem, xQ, ↓reduceIte, xA, xM, xL, xT, xE, xN, xP, xR, xS, h2, h6, h114, h115, h116, hlt2, ↓tm_part hx, pc', y6, yc, yc', ym]
          refine ⟨by rw [wrap_succ _ (by omega)], by rw [← Bool.or_assoc, hzz]; rfl, ?_⟩
          simp only [go_sem, xQ, ↓reduceIte, xA, xM, xL, xT, xE, xN, xP, xR, xS, ym, y6, pm, p6, m6', kbc, pm]
          exact (pF.fresh hb14 _).own (.inl rfl) _
        | false =>
          simp only [go_sem, xQ, ↓reduceIte, xA, xM, xL, xT, xE, xN, xP, xR, xS, h2, h6, h114, h115, h116, hlt2, ↓tm_part hx, pc', y6, yc, yc', ym]
          refine dcallB_use (f159 x hxf) rfl ?_
          simp only [go_sem, xQ, ↓reduceIte, xA, xM, xL, xT, xE, xN, xP, xR, xS, h2, h6, h114, h115, h116, hlt2, ↓tm_part hx, pc', y6, yc, yc', ym]
          refine ⟨by rw [wrap_succ _ (by omega)], by rw [← Bool.or_assoc, hzz, larT, Bool.false_or, decide_not]; rfl, ?_⟩
          simp only [go_sem, xQ, ↓reduceIte, xA, xM, xL, xT, xE, xN, xP, xR, xS, ym, y6, pm, p6, m6', kbc, pm]
          exact (pF.fresh hb14 _).own (.inl rfl) _
      · subst hk2
        rw [List.take_length] at pc
        simp only [go_sem, xQ, ↓reduceIte, xA, xM, xL, xT, xE, xN, xP, xR, xS, h2, h6, h114, h115, h116, Nat.lt_irrefl, p6, p6]
        obtain ⟨w1, w2, w3, w4⟩ := hMM.fin hd hn hCC
        exact ⟨slC C, _, hz _ _, Drop.refl _, hCC ▸ hK m (lar || larC C) _ w1 w2 w3 w4 hMM.new pc pm pF⟩
  · have hk2 : n.kind = 2 := by unfold kindW at hk; split at hk <;> omega
    have e20 : ((2 : Int) = 0) = False := eq_false (by decide)
    have e21 : ((2 : Int) = 1) = False := eq_false (by decide)
    simp only [go_sem, xQ, ↓reduceIte, xA, xM, xL, xT, xE, xN, xP, xR, xS, hbc', m5, m5', k5, k5', n65, n65', m6, m6', k6, k6', hk, e20, e21]
    refine callB_use (f223 f i b) rfl ?_
    simp only [go_sem, xQ, ↓reduceIte, xA, xM, xL, xT, xE, xN, xP, xR, xS, hbc', m5, m5', k5, k5', n65, n65', m6, m6', k6, k6', hk]
    refine SemC.rangeE (xs := waysX n b) (D := ownD n) (E := noD) (pre := fun _ => True) (f := 252) (first := []) (captured := [.pp (fmC f) 0, .pp [int i, .v (.bool b)] 0]) mixed (by simp only [go_sem, xQ, ↓reduceIte, xA, xM, xL, xT, xE, xN, xP, xR, xS]) (f252 f i b n hn hkf) (by decide) (by kernel_rfl) (by kernel_rfl) own_ctl noD_ctl (fun _ _ _ _ _ _ => trivial)
      (fun k σ' => ∃ (m1 : List (WayT × AV)) (lar1 : Bool) (o : AV), (MidL f.nodes i n b m lar k m1 lar1 ∧ (∀ σ σ' : Sig, Fz σ σ' o (slC (((subW f.nodes n b).take k).getLastD [])))) ∧ σ' bc = some (cntRow f bm lar1) ∧ σ' bm = some (.map (mapW m1)) ∧ σ' b6 = some (.row [o] 1 1) ∧  Frm bc bm σ σ')
      (fun e σ' => False)
      (fun k x ρ1 σ' => ∃ (j b8 : Nat) (m1 : List (WayT × AV)) (lar1 : Bool) (o : AV), (n.kids[k]? = some (j : Int) ∧ ρ1 2 = .pp [.v (.pointer (some ⟨bc, 0, none⟩))] 0 ∧ ρ1 6 = .v (.pointer (some ⟨b6, 0, none⟩)) ∧ ρ1 7 = .v (.pointer (some ⟨b8, 0, none⟩)) ∧  MidL f.nodes i n b m lar k m1 lar1 ∧ (∀ σ σ' : Sig, Fz σ σ' o (slC (((subW f.nodes n b).take k).getLastD [])))) ∧ σ' b8 = some (.row [int j, .v (.bool (b != decide (n.kind = 2)))] 2 1) ∧ σ' bc = some (cntRow f bm lar1) ∧ σ' bm = some (.map (mapW m1)) ∧ σ' b6 = some (.row [o] 1 1) ∧  Frm bc bm σ σ')
      (by intros; repeat' (first | exact Closed.row (fun h => h) | exact Closed.grow (fun _ h => h) | exact Closed.map (fun h => h) | exact Frm.closed (fun x hx => by first | exact hx | exact (un hx).2 | exact (un (un hx).2).2 | exact (un (un (un hx).2).2).2 | exact (un (un (un (un hx).2).2).2).2) | exact Closed.const _ | refine Closed.ex fun _ => ?_ | refine Closed.and ?_ ?_))
      (by intros; repeat' (first | exact Closed.row (fun h => h) | exact Closed.grow (fun _ h => h) | exact Closed.map (fun h => h) | exact Frm.closed (fun x hx => by first | exact hx | exact (un hx).2 | exact (un (un hx).2).2 | exact (un (un (un hx).2).2).2 | exact (un (un (un (un hx).2).2).2).2) | exact Closed.const _ | refine Closed.ex fun _ => ?_ | refine Closed.and ?_ ?_))
      (by intros; repeat' (first | exact Closed.row (fun h => h) | exact Closed.grow (fun _ h => h) | exact Closed.map (fun h => h) | exact Frm.closed (fun x hx => by first | exact hx | exact (un hx).2 | exact (un (un hx).2).2 | exact (un (un (un hx).2).2).2 | exact (un (un (un (un hx).2).2).2).2) | exact Closed.const _ | refine Closed.ex fun _ => ?_ | refine Closed.and ?_ ?_))
      ?_ ?_ ?_ ?_ ?_
    · exact ⟨m, lar, _, ⟨MidL.zero hm, fun _ _ => .nil⟩, by simp only [go_sem, xQ, ↓reduceIte, xA, xM, xL, xT, xE, xN, xP, xR, xS, m5, m6]; exact hbc, by simp only [go_sem, xQ, ↓reduceIte, xA, xM, xL, xT, xE, xN, xP, xR, xS, k5, k6]; exact hbm, by simp only [go_sem, xQ, ↓reduceIte, xA, xM, xL, xT, xE, xN, xP, xR, xS], (Frm.refl.new hb5 _).new hb6 _⟩
    · rintro k x E σ' lq hE hx ⟨m1, lar1, o, ⟨hM, hoo⟩, qc, qm, q6,  hF⟩
      obtain ⟨c, hc', rfl⟩ := waysX_get hx
      obtain ⟨j, rfl⟩ := Int.eq_ofNat_of_zero_le (hd i n hn c (mem_of_get hc')).1
      have e2 : E 2 = .pp [.v (.pointer (some ⟨bc, 0, none⟩))] 0 := by rw [hE 2 (by decide)]; simp only [go_sem, xQ, ↓reduceIte, xA, xM, xL, xT, xE, xN, xP, xR, xS]
      have e6 : E 6 = .v (.pointer (some ⟨b6, 0, none⟩)) := by rw [hE 6 (by decide)]; simp only [go_sem, xQ, ↓reduceIte, xA, xM, xL, xT, xE, xN, xP, xR, xS]
      skip
      simp only [go_sem, xQ, ↓reduceIte, xA, xM, xL, xT, xE, xN, xP, xR, xS, e2, e6]
      intro b8 hb8
      have x6 : ¬ b6 = b8 := nn hb8 q6
      have xc : ¬ bc = b8 := nn hb8 qc
      have xm : ¬ bm = b8 := nn hb8 qm
      skip
      simp only [go_sem, xQ, ↓reduceIte, xA, xM, xL, xT, xE, xN, xP, xR, xS, e2, e6, hc']
      refine ⟨(Keep.refl _ _).upd (keep_none hb8), j, b8, m1, lar1, o, ?_⟩
      simp only [go_sem, xQ, ↓reduceIte, xA, xM, xL, xT, xE, xN, xP, xR, xS, e2, e6, hc', x6, xc, xm, q6, qc, qm, hc']
      exact ⟨⟨hM, hoo⟩, hF.fresh hb8 _⟩
    · rintro k x ρ1 σ' lq hx ⟨j, b8, m1, lar1, o, ⟨hc', h2, h6, h7, hM, hoo⟩, q8, qc, qm, q6, hF⟩
      simp only [go_sem, xQ, ↓reduceIte, xA, xM, xL, xT, xE, xN, xP, xR, xS, h2, h6, h7, q8]
      obtain ⟨nc, hnc⟩ : ∃ nc, f.nodes[j]? = some nc := ⟨f.nodes[j]'(by have := (hd i n hn _ (mem_of_get hc')).2; have := lt_of_getElem? hn; omega), List.getElem?_eq_getElem _⟩
      have hji : (j : Int) < (i : Int) := (hd i n hn _ (mem_of_get hc')).2
      have hbk := bad_kid hd hn hbad (mem_of_get hc')
      obtain ⟨kl1, kl2, _⟩ := (cnt_cas hd hok (j + 1) j (b != decide (n.kind = 2)) nc (by omega) hnc).2 hbk
      have hsg := subW_get (l := f.nodes) (b := b) hc'
      have htk := take_succ hsg
      refine callB_a (ih j (by omega) (b != decide (n.kind = 2)) m1 lar1 _ _ hbk qc qm hM.memo ?_) rfl
      intro m2 lar2 σ2 hm2 u1 u2 u3 u4 qc2 qm2 hF2
      have hK1 := hF2.keep1 qc qm
      have q62 : σ2 b6 = some (.row [o] 1 1) := hK1 _ _ _ q6
      have hK2 := Frm.keep (n := n) qc own_cnt qm hF2
      have hM2 := hM.succ hc' hji hm2 u1 u2 u3 u4
      have hFF := hF.trans hF2
      simp only [go_sem, xQ, ↓reduceIte, xA, xM, xL, xT, xE, xN, xP, xR, xS, h2, h6, h7, q62]
      refine ⟨hK2.upd (keep_row q6 (own_row (by decide))), m2, lar2, slC (casW f.nodes ((j : Int), b != decide (n.kind = 2))), ⟨hM2, fun _ _ => ?_⟩, ?_⟩
      · rw [htk, List.getLastD_concat]; exact .refl _
      · simp only [go_sem, xQ, ↓reduceIte, xA, xM, xL, xT, xE, xN, xP, xR, xS, m6, k6, qc2, qm2]
        exact hFF.new hb6 _
    · rintro σ' r hr' ⟨m1, lar1, o, ⟨hMM, hoo⟩, qc, qm, q6,  hF⟩ hdr
      rw [waysX_len] at hMM
      have r6 : ¬ b6 = r := dn hdr q6
      have rc : ¬ bc = r := dn hdr qc
      have rm : ¬ bm = r := fun e => by rw [e, hdr] at qm; cases qm
      have r6' : ¬ r = b6 := fun e => r6 e.symm
      have rc' : ¬ r = bc := fun e => rc e.symm
      have rm' : ¬ r = bm := fun e => rm e.symm
      have hr0 : σ r = none := (un (un hr').2).2
      rw [waysX_len, ← subW_len (l := f.nodes) (b := b), List.take_length] at hoo
      obtain ⟨C, hCC, hC0⟩ : ∃ C, casW f.nodes ((i : Int), b) = C ∧ C = (subW f.nodes n b).getLastD [] := ⟨_, rfl, by rw [hCe, hk]; rfl⟩
      rw [hCC] at cl1 cl2
      have hz : ∀ σ σ' : Sig, Fz σ σ' o (slC C) := fun σ σ' => by rw [hC0]; exact hoo _ _
      simp only [go_sem, xQ, ↓reduceIte, xA, xM, xL, xT, xE, xN, xP, xR, xS, q6]
      have hfl : C.flatten.length ≤ 64 * 32 := Nat.le_trans (flat_max C) (Nat.mul_le_mul cl1 cl2)
      refine callB_fz (f258 C (by omega) (by omega)) (.cons (hz _ _) .nil) ?_
      simp only [go_sem, xQ, ↓reduceIte, xA, xM, xL, xT, xE, xN, xP, xR, xS]
      refine SemC.loopK mixed C.flatten.length (fun k ρ σ2 ds => (ds = [r] ∧ ρ 2 = .pp [.v (.pointer (some ⟨bc, 0, none⟩))] 0 ∧ ρ 6 = .v (.pointer (some ⟨b6, 0, none⟩)) ∧ ρ 114 = slT C.flatten ∧ ρ 115 = int C.flatten.length ∧ ρ 116 = int k) ∧ σ2 bc = some (cntRow f bm (lar1 || (C.flatten.take k).any larT)) ∧ σ2 bm = some (.map (mapW m1)) ∧ σ2 b6 = some (.row [o] 1 1) ∧ σ2 r = some (.obj (.deferred (some []))) ∧ Frm bc bm σ σ2) (by kernel_rfl) ⟨⟨rfl, by simp only [go_sem, xQ, ↓reduceIte, xA, xM, xL, xT, xE, xN, xP, xR, xS], by simp only [go_sem, xQ, ↓reduceIte, xA, xM, xL, xT, xE, xN, xP, xR, xS], rfl, rfl, rfl⟩, by simpa using qc, qm, q6, hdr, hF⟩ ?_
      rintro k ρ σ2 ds hk ⟨⟨rfl, h2, h6, h114, h115, h116⟩, pc, pm, p6, hdr, pF⟩
      rcases get_or_end C.flatten k hk with ⟨x, hx, hlt2, hd2⟩ | hk2
      · have hxf : Fits x.coeffs.length := by
          obtain ⟨y, h1, h2⟩ := List.mem_flatten.1 (mem_of_get hx)
          have := cas_fit hd hc (i + 1) i b n (by omega) hn
          rw [hCC] at this
          exact this y h1 x h2
        rw [any_take hx]
        generalize hzz : (lar1 || (C.flatten.take k).any larT) = z at pc
        have pc' : σ2 bc = some (.row [int f.vars, slN f.nodes, .v (.map (some bm)), .v (.bool z)] 4 1) := pc
        simp only [go_sem, xQ, ↓reduceIte, xA, xM, xL, xT, xE, xN, xP, xR, xS, h2, h6, h114, h115, h116, hlt2, ↓tm_part hx]
        intro b14 hb14
        have y6 : ¬ b6 = b14 := nn hb14 p6
        have yc : ¬ bc = b14 := nn hb14 pc
        have ym : ¬ bm = b14 := nn hb14 pm
        have yc' : ¬ b14 = bc := fun e => yc e.symm
        have yr : ¬ r = b14 := fun e => by rw [← e, hdr] at hb14; cases hb14
        cases z with
        | true =>
          simp only [go_sem, xQ, ↓reduceIte, xA, xM, xL, xT, xE, xN, xP, xR, xS, h2, h6, h114, h115, h116, hlt2, ↓tm_part hx, pc', y6, yc, yc', ym]
          refine ⟨by rw [wrap_succ _ (by omega)], by rw [← Bool.or_assoc, hzz]; rfl, ?_⟩
          simp only [go_sem, xQ, ↓reduceIte, xA, xM, xL, xT, xE, xN, xP, xR, xS, ym, y6, pm, p6, m6', kbc, yr, hdr, rc']
          exact (pF.fresh hb14 _).own (.inl rfl) _
        | false =>
          simp only [go_sem, xQ, ↓reduceIte, xA, xM, xL, xT, xE, xN, xP, xR, xS, h2, h6, h114, h115, h116, hlt2, ↓tm_part hx, pc', y6, yc, yc', ym]
          refine dcallB_use (f159 x hxf) rfl ?_
          simp only [go_sem, xQ, ↓reduceIte, xA, xM, xL, xT, xE, xN, xP, xR, xS, h2, h6, h114, h115, h116, hlt2, ↓tm_part hx, pc', y6, yc, yc', ym]
          refine ⟨by rw [wrap_succ _ (by omega)], by rw [← Bool.or_assoc, hzz, larT, Bool.false_or, decide_not]; rfl, ?_⟩
          simp only [go_sem, xQ, ↓reduceIte, xA, xM, xL, xT, xE, xN, xP, xR, xS, ym, y6, pm, p6, m6', kbc, yr, hdr, rc']
          exact (pF.fresh hb14 _).own (.inl rfl) _
      · subst hk2
        rw [List.take_length] at pc
        simp only [go_sem, xQ, ↓reduceIte, xA, xM, xL, xT, xE, xN, xP, xR, xS, h2, h6, h114, h115, h116, Nat.lt_irrefl, p6, hdr]
        obtain ⟨w1, w2, w3, w4⟩ := hMM.fin hd hn hCC
        exact ⟨slC C, _, hz _ _, Drop.refl _, hCC ▸ hK m1 (lar1 || larC C) _ w1 w2 w3 w4 hMM.new (by rw [ers_ne _ _ _ rc]; exact pc) (by rw [ers_ne _ _ _ rm]; exact pm) (by rw [ers_upd]; exact pF.new hr0 _)⟩
    · rintro e σ' r hr' hF hdr
      exact hF.elim
  · have e30 : ((3 : Int) = 0) = False := eq_false (by decide)
    have e31 : ((3 : Int) = 1) = False := eq_false (by decide)
    have e32 : ((3 : Int) = 2) = False := eq_false (by decide)
    simp only [go_sem, xQ, ↓reduceIte, xA, xM, xL, xT, xE, xN, xP, xR, xS, hbc', m5, m5', k5, k5', n65, n65', m6, m6', k6, k6', hk, e30, e31, e32]
    intro b7 hb7
    obtain ⟨n76, hb7⟩ := un hb7
    obtain ⟨n75, hb7⟩ := un hb7
    have n76' : ¬ b6 = b7 := fun e => n76 e.symm
    have n75' : ¬ b5 = b7 := fun e => n75 e.symm
    have m7 : ¬ bc = b7 := nn hb7 hbc
    have m7' : ¬ b7 = bc := fun e => m7 e.symm
    have k7 : ¬ bm = b7 := nn hb7 hbm
    have k7' : ¬ b7 = bm := fun e => k7 e.symm
    simp only [go_sem, xQ, ↓reduceIte, xA, xM, xL, xT, xE, xN, xP, xR, xS, hbc', m5, m5', k5, k5', n65, n65', m6, m6', k6, k6', hk, n76, n76', n75, n75', m7, m7', k7, k7']
    refine callB_use (f223 f i b) rfl ?_
    simp only [go_sem, xQ, ↓reduceIte, xA, xM, xL, xT, xE, xN, xP, xR, xS, hbc', m5, m5', k5, k5', n65, n65', m6, m6', k6, k6', hk, n76, n76', n75, n75', m7, m7', k7, k7']
    refine SemC.rangeE (xs := waysX n b) (D := ownD n) (E := noD) (pre := fun _ => True) (f := 252) (first := []) (captured := [.pp (fmC f) 0, .pp [int i, .v (.bool b)] 0]) mixed (by simp only [go_sem, xQ, ↓reduceIte, xA, xM, xL, xT, xE, xN, xP, xR, xS]) (f252 f i b n hn hkf) (by decide) (by kernel_rfl) (by kernel_rfl) own_ctl noD_ctl (fun _ _ _ _ _ _ => trivial)
      (fun k σ' => ∃ (m1 : List (WayT × AV)) (lar1 : Bool) (o : AV), (MidL f.nodes i n b m lar k m1 lar1 ∧ True) ∧ σ' bc = some (cntRow f bm lar1) ∧ σ' bm = some (.map (mapW m1)) ∧ σ' b6 = some (.row [.v (.slice none 0 0)] 1 1) ∧ σ' b7 = some (.row [o] 1 1) ∧ Grow (bas bc bm σ) σ' 1 o (((subW f.nodes n b).take k).map slC) k ∧ Frm bc bm σ σ')
      (fun e σ' => False)
      (fun k x ρ1 σ' => ∃ (j b8 : Nat) (m1 : List (WayT × AV)) (lar1 : Bool) (o : AV), (n.kids[k]? = some (j : Int) ∧ ρ1 2 = .pp [.v (.pointer (some ⟨bc, 0, none⟩))] 0 ∧ ρ1 6 = .v (.pointer (some ⟨b6, 0, none⟩)) ∧ ρ1 9 = .v (.pointer (some ⟨b8, 0, none⟩)) ∧ ρ1 8 = .v (.pointer (some ⟨b7, 0, none⟩)) ∧ MidL f.nodes i n b m lar k m1 lar1 ∧ True) ∧ σ' b8 = some (.row [int j, .v (.bool (b != decide (n.kind = 2)))] 2 1) ∧ σ' bc = some (cntRow f bm lar1) ∧ σ' bm = some (.map (mapW m1)) ∧ σ' b6 = some (.row [.v (.slice none 0 0)] 1 1) ∧ σ' b7 = some (.row [o] 1 1) ∧ Grow (bas bc bm σ) σ' 1 o (((subW f.nodes n b).take k).map slC) k ∧ Frm bc bm σ σ')
      (by intros; repeat' (first | exact Closed.row (fun h => h) | exact Closed.grow (fun _ h => h) | exact Closed.map (fun h => h) | exact Frm.closed (fun x hx => by first | exact hx | exact (un hx).2 | exact (un (un hx).2).2 | exact (un (un (un hx).2).2).2 | exact (un (un (un (un hx).2).2).2).2) | exact Closed.const _ | refine Closed.ex fun _ => ?_ | refine Closed.and ?_ ?_))
      (by intros; repeat' (first | exact Closed.row (fun h => h) | exact Closed.grow (fun _ h => h) | exact Closed.map (fun h => h) | exact Frm.closed (fun x hx => by first | exact hx | exact (un hx).2 | exact (un (un hx).2).2 | exact (un (un (un hx).2).2).2 | exact (un (un (un (un hx).2).2).2).2) | exact Closed.const _ | refine Closed.ex fun _ => ?_ | refine Closed.and ?_ ?_))
      (by intros; repeat' (first | exact Closed.row (fun h => h) | exact Closed.grow (fun _ h => h) | exact Closed.map (fun h => h) | exact Frm.closed (fun x hx => by first | exact hx | exact (un hx).2 | exact (un (un hx).2).2 | exact (un (un (un hx).2).2).2 | exact (un (un (un (un hx).2).2).2).2) | exact Closed.const _ | refine Closed.ex fun _ => ?_ | refine Closed.and ?_ ?_))
      ?_ ?_ ?_ ?_ ?_
    · exact ⟨m, lar, _, ⟨MidL.zero hm, trivial⟩, by simp only [go_sem, xQ, ↓reduceIte, xA, xM, xL, xT, xE, xN, xP, xR, xS, m5, m6, m7]; exact hbc, by simp only [go_sem, xQ, ↓reduceIte, xA, xM, xL, xT, xE, xN, xP, xR, xS, k5, k6, k7]; exact hbm, by simp only [go_sem, xQ, ↓reduceIte, xA, xM, xL, xT, xE, xN, xP, xR, xS, n76'], by simp only [go_sem, xQ, ↓reduceIte, xA, xM, xL, xT, xE, xN, xP, xR, xS], .nil _ _ _, ((Frm.refl.new hb5 _).new hb6 _).new hb7 _⟩
    · rintro k x E σ' lq hE hx ⟨m1, lar1, o, ⟨hM, hoo⟩, qc, qm, q6, q7, hG, hF⟩
      obtain ⟨c, hc', rfl⟩ := waysX_get hx
      obtain ⟨j, rfl⟩ := Int.eq_ofNat_of_zero_le (hd i n hn c (mem_of_get hc')).1
      have e2 : E 2 = .pp [.v (.pointer (some ⟨bc, 0, none⟩))] 0 := by rw [hE 2 (by decide)]; simp only [go_sem, xQ, ↓reduceIte, xA, xM, xL, xT, xE, xN, xP, xR, xS]
      have e6 : E 6 = .v (.pointer (some ⟨b6, 0, none⟩)) := by rw [hE 6 (by decide)]; simp only [go_sem, xQ, ↓reduceIte, xA, xM, xL, xT, xE, xN, xP, xR, xS]
      have e8 : E 8 = .v (.pointer (some ⟨b7, 0, none⟩)) := by rw [hE 8 (by decide)]; simp only [go_sem, xQ, ↓reduceIte, xA, xM, xL, xT, xE, xN, xP, xR, xS]
      simp only [go_sem, xQ, ↓reduceIte, xA, xM, xL, xT, xE, xN, xP, xR, xS, e2, e6]
      intro b8 hb8
      have x6 : ¬ b6 = b8 := nn hb8 q6
      have xc : ¬ bc = b8 := nn hb8 qc
      have xm : ¬ bm = b8 := nn hb8 qm
      have x7 : ¬ b7 = b8 := nn hb8 q7
      simp only [go_sem, xQ, ↓reduceIte, xA, xM, xL, xT, xE, xN, xP, xR, xS, e2, e6, hc']
      refine ⟨(Keep.refl _ _).upd (keep_none hb8), j, b8, m1, lar1, o, ?_⟩
      simp only [go_sem, xQ, ↓reduceIte, xA, xM, xL, xT, xE, xN, xP, xR, xS, e2, e6, hc', x6, xc, xm, q6, qc, qm, e8, x7, q7]
      exact ⟨hM, hG.upd hb8, hF.fresh hb8 _⟩
    · rintro k x ρ1 σ' lq hx ⟨j, b8, m1, lar1, o, ⟨hc', h2, h6, h9, h8, hM, _⟩, q8, qc, qm, q6, q7, hG, hF⟩
      simp only [go_sem, xQ, ↓reduceIte, xA, xM, xL, xT, xE, xN, xP, xR, xS, h2, h6, h8, h9, q8, q7]
      obtain ⟨nc, hnc⟩ : ∃ nc, f.nodes[j]? = some nc := ⟨f.nodes[j]'(by have := (hd i n hn _ (mem_of_get hc')).2; have := lt_of_getElem? hn; omega), List.getElem?_eq_getElem _⟩
      have hji : (j : Int) < (i : Int) := (hd i n hn _ (mem_of_get hc')).2
      have hbk := bad_kid hd hn hbad (mem_of_get hc')
      obtain ⟨kl1, kl2, _⟩ := (cnt_cas hd hok (j + 1) j (b != decide (n.kind = 2)) nc (by omega) hnc).2 hbk
      have hsg := subW_get (l := f.nodes) (b := b) hc'
      have htk := take_succ hsg
      refine xcallB_a (ih j (by omega) (b != decide (n.kind = 2)) m1 lar1 _ _ hbk qc qm hM.memo ?_) rfl
      intro m2 lar2 σ2 hm2 u1 u2 u3 u4 qc2 qm2 hF2
      have hK1 := hF2.keep1 qc qm
      have q62 : σ2 b6 = some (.row [.v (.slice none 0 0)] 1 1) := hK1 _ _ _ q6
      have hK2 := Frm.keep (n := n) qc own_cnt qm hF2
      have hM2 := hM.succ hc' hji hm2 u1 u2 u3 u4
      have hFF := hF.trans hF2
      refine ⟨hK1, ?_⟩
      have q72 := hK1 _ _ _ q7
      have hG2 := hG.keep1 hK1
      have hkx : k < n.kids.length := lt_of_getElem? hc'
      have hkf' : n.kids.length ≤ 1000000000000 := hkf
      simp only [go_sem, xQ, ↓reduceIte, xA, xM, xL, xT, xE, xN, xP, xR, xS, h2, h6, h8, h9, q62, q72]
      refine appB_sl (appT_sl el344 tk73 by73 el344 (by decide) rfl (by decide)) hFF.drop hG2 rfl rfl (by omega) (fun a' σ3 hD3 hO hG3 => ?_)
      have q73 : σ3 b7 = some (.row [o] 1 1) := by rw [hO b7 (hG2.neC q72 (slC_neG hG2)) (by rw [q72]; simp)]; exact q72
      have q63 : σ3 b6 = some (.row [.v (.slice none 0 0)] 1 1) := by rw [hO b6 (hG2.neC q62 slC_ne) (by rw [q62]; simp)]; exact q62
      have qc3 : σ3 bc = some (cntRow f bm lar2) := by rw [hO bc (hG2.neS qc2 (by decide)) (by rw [qc2]; simp)]; exact qc2
      have qm3 : σ3 bm = some (.map (mapW m2)) := by rw [hO bm (hG2.neM qm2) (by rw [qm2]; simp)]; exact qm2
      have hc2 := hG3.cellsX
      have ho2 := hG3.oneX
      simp only [go_sem, xQ, ↓reduceIte, xA, xM, xL, xT, xE, xN, xP, xR, xS, h2, h6, h8, h9, q73, hc2, ho2]
      have hG4 : Grow (bas bc bm σ) σ3 1 a' (((subW f.nodes n b).take (k + 1)).map slC) (k + 1) := by rw [htk, List.map_append]; exact hG3
      have hKO : Keep (KD (ownD n)) σ2 σ3 := fun x y hx hy => by
        rw [hO x ?_ (by rw [hx]; simp)]; · exact hx
        intro s1 o' m' e
        rcases hG2 with ⟨h, _⟩ | ⟨b', c, h0, h1, h2, h3⟩
        · rcases h with h | h <;> rw [h] at e <;> cases e
        · rw [h0] at e
          cases e
          rw [hx] at h2
          cases h2
          rcases hy with hy | hy
          · exact hy
          · exact own_row (by decide) hy
      refine ⟨((hK2.trans hKO).upd (keep_row q7 (own_row (by decide)))), m2, lar2, a', hM2, ?_⟩
      simp only [go_sem, xQ, ↓reduceIte, xA, xM, xL, xT, xE, xN, xP, xR, xS, m7, k7, n76', qc3, qm3, q63]
      exact ⟨hG4.updW (hG4.neC q73 (slC_neG hG2)) _, (Frm.of_drop hD3).new hb7 _⟩
    · rintro σ' r hr' ⟨m1, lar1, o, ⟨hMM, hoo⟩, qc, qm, q6, q7, hG, hF⟩ hdr
      rw [waysX_len] at hMM
      have r6 : ¬ b6 = r := dn hdr q6
      have rc : ¬ bc = r := dn hdr qc
      have rm : ¬ bm = r := fun e => by rw [e, hdr] at qm; cases qm
      have r6' : ¬ r = b6 := fun e => r6 e.symm
      have rc' : ¬ r = bc := fun e => rc e.symm
      have rm' : ¬ r = bm := fun e => rm e.symm
      have r7 : ¬ b7 = r := dn hdr q7
      have r7' : ¬ r = b7 := fun e => r7 e.symm
      have hr0 : σ r = none := (un (un (un hr').2).2).2
      rw [waysX_len, ← subW_len (l := f.nodes) (b := b), List.take_length] at hG
      have hmk : casW f.nodes ((i : Int), b) = if (subW f.nodes n b).any (fun x => decide (x.length = 0)) then [] else (subW f.nodes n b).foldl prodC [[]] := by rw [hCe, hk]; rfl
      have hSl : Fits (subW f.nodes n b).length := by rw [subW_len]; exact hkf
      simp only [go_sem, xQ, ↓reduceIte, xA, xM, xL, xT, xE, xN, xP, xR, xS]
      refine frzB_grow2 (s := 1) 8 b7 (by simp only [go_sem, xQ, ↓reduceIte, xA, xM, xL, xT, xE, xN, xP, xR, xS]) q7 hG (hG.neC q7 (slC_neG hG)) (fun σ3 hD3 hP => ?_)
      have qc3 : σ3 bc = some (cntRow f bm lar1) := by rw [hP bc m7 (hG.neS qc (by decide))]; exact qc
      have qm3 : σ3 bm = some (.map (mapW m1)) := by rw [hP bm k7 (hG.neM qm)]; exact qm
      have q63 : σ3 b6 = some (.row [.v (.slice none 0 0)] 1 1) := by rw [hP b6 n76' (hG.neC q6 slC_ne)]; exact q6
      have hdr3 : σ3 r = some (.obj (.deferred (some []))) := by rw [hP r r7' (hG.neO hdr)]; exact hdr
      have hF3 : Frm bc bm σ σ3 := fun x y g1 g2 g3 => by
        rw [hP x (fun e => by rw [e, hb7] at g3; cases g3) (hG.neB (by rw [bas, if_neg (by rintro (e | e) <;> contradiction), g3]; simp))]
        exact hF x y g1 g2 g3
      simp only [go_sem, xQ, ↓reduceIte, xA, xM, xL, xT, xE, xN, xP, xR, xS]
      refine callB_use (f254 (subW f.nodes n b) hSl _ (fun x => decide (x.length = 0)) (fun x _ => dcall_of (f255 x) rfl)) rfl ?_
      cases hany : (subW f.nodes n b).any (fun x => decide (x.length = 0)) with
      | true =>
        rw [hany] at hmk
        have hCC : casW f.nodes ((i : Int), b) = [] := hmk
        simp only [go_sem, xQ, ↓reduceIte, xA, xM, xL, xT, xE, xN, xP, xR, xS, hdr3]
        obtain ⟨w1, w2, w3, w4⟩ := hMM.fin hd hn hCC
        have e0 : (lar1 || larC []) = lar1 := Bool.or_false _
        rw [e0] at w1 w2 w3 w4
        exact ⟨slC [], _, .nil, Drop.refl _, hCC ▸ hK m1 lar1 _ w1 w2 w3 w4 hMM.new (by rw [ers_ne _ _ _ rc]; exact qc3) (by rw [ers_ne _ _ _ rm]; exact qm3) (by rw [ers_upd]; exact hF3.new hr0 _)⟩
      | false =>
        rw [hany] at hmk
        obtain ⟨C, hCC, hC0⟩ : ∃ C, casW f.nodes ((i : Int), b) = C ∧ C = (subW f.nodes n b).foldl prodC [[]] := ⟨_, rfl, hmk⟩
        rw [hCC] at cl1 cl2
        have hne : ∀ D ∈ subW f.nodes n b, D ≠ [] := fun D hD e => by
          have := List.any_eq_false.1 hany D hD
          rw [e] at this
          exact this rfl
        have hkid : ∀ D ∈ subW f.nodes n b, D.length ≤ 64 ∧ maxL D ≤ 32 := fun D hD => by
          obtain ⟨x, hx, rfl⟩ := List.mem_map.1 hD
          obtain ⟨j, rfl⟩ := Int.eq_ofNat_of_zero_le (hd i n hn x hx).1
          obtain ⟨nc, hnc⟩ : ∃ nc, f.nodes[j]? = some nc := ⟨f.nodes[j]'(by have := (hd i n hn _ hx).2; omega), List.getElem?_eq_getElem _⟩
          obtain ⟨g1, g2, _⟩ := (cnt_cas hd hok (j + 1) j (b != decide (n.kind = 2)) nc (by omega) hnc).2 (bad_kid hd hn hbad hx)
          exact ⟨g1, g2⟩
        simp only [go_sem, xQ, ↓reduceIte, xA, xM, xL, xT, xE, xN, xP, xR, xS, q63]
        refine SemC.loopK mixed (subW f.nodes n b).length (fun k ρ σ2 ds => ∃ o2 : AV, (ds = [r] ∧ ρ 2 = .pp [.v (.pointer (some ⟨bc, 0, none⟩))] 0 ∧ ρ 6 = .v (.pointer (some ⟨b6, 0, none⟩)) ∧ ρ 88 = slCC (subW f.nodes n b) ∧ ρ 89 = int (subW f.nodes n b).length ∧ ρ 90 = int k ∧ ∀ σ σ' : Sig, Fz σ σ' o2 (slC (((subW f.nodes n b).take k).foldl prodC [[]]))) ∧ σ2 bc = some (cntRow f bm lar1) ∧ σ2 bm = some (.map (mapW m1)) ∧ σ2 b6 = some (.row [o2] 1 1) ∧ σ2 r = some (.obj (.deferred (some []))) ∧ Frm bc bm σ σ2) (by kernel_rfl) ⟨_, ⟨rfl, by simp only [go_sem, xQ, ↓reduceIte, xA, xM, xL, xT, xE, xN, xP, xR, xS], by simp only [go_sem, xQ, ↓reduceIte, xA, xM, xL, xT, xE, xN, xP, xR, xS], by simp only [go_sem, xQ, ↓reduceIte, xA, xM, xL, xT, xE, xN, xP, xR, xS], by simp only [go_sem, xQ, ↓reduceIte, xA, xM, xL, xT, xE, xN, xP, xR, xS], by simp only [go_sem, xQ, ↓reduceIte, xA, xM, xL, xT, xE, xN, xP, xR, xS], fun _ _ => .sl (.cons .nil .nil)⟩, by rw [upd_ne _ _ _ _ m6]; exact qc3, by rw [upd_ne _ _ _ _ k6]; exact qm3, upd_same _ _ _, by rw [upd_ne _ _ _ _ r6']; exact hdr3, hF3.new hb6 _⟩ ?_
        rintro k ρ σ2 ds hk0 ⟨o2, ⟨rfl, h2, h6, h88, h89, h90, hoo⟩, qc, qm, q6, hdr, hF⟩
        rcases get_or_end (subW f.nodes n b) k hk0 with ⟨x, hx, hlt2, hd2⟩ | hk2
        · obtain ⟨g1, g2⟩ := prod_part hne k
          rw [← hC0] at g1 g2
          obtain ⟨g3, g4⟩ := hkid x (mem_of_get hx)
          simp only [go_sem, xQ, ↓reduceIte, xA, xM, xL, xT, xE, xN, xP, xR, xS, h2, h6, h88, h89, h90, hlt2, hx, q6]
          refine callB_fz (f256 (((subW f.nodes n b).take k).foldl prodC [[]]) x (by omega) (by omega) (fun y hy => by have := maxL_mem hy; omega) (fun y hy => by have := maxL_mem hy; omega)) (.cons (hoo _ _) (.cons (.refl _) .nil)) ?_
          simp only [go_sem, xQ, ↓reduceIte, xA, xM, xL, xT, xE, xN, xP, xR, xS, h2, h6, h88, h89, h90, q6]
          refine ⟨slC (prodC (((subW f.nodes n b).take k).foldl prodC [[]]) x), ⟨by rw [wrap_succ _ (by omega)], fun _ _ => ?_⟩, ?_⟩
          · rw [take_succ hx, List.foldl_append]; exact .refl _
          · simp only [go_sem, xQ, ↓reduceIte, xA, xM, xL, xT, xE, xN, xP, xR, xS, m6, k6, r6', qc, qm, hdr]
            exact hF.new hb6 _
        · subst hk2
          rw [List.take_length] at hoo
          have hz : ∀ σ σ' : Sig, Fz σ σ' o2 (slC C) := fun σ σ' => by rw [hC0]; exact hoo _ _
          simp only [go_sem, xQ, ↓reduceIte, xA, xM, xL, xT, xE, xN, xP, xR, xS, h2, h6, h88, h89, h90, Nat.lt_irrefl, q6]
          have hfl : C.flatten.length ≤ 64 * 32 := Nat.le_trans (flat_max C) (Nat.mul_le_mul cl1 cl2)
          refine callB_fz (f258 C (by omega) (by omega)) (.cons (hz _ _) .nil) ?_
          simp only [go_sem, xQ, ↓reduceIte, xA, xM, xL, xT, xE, xN, xP, xR, xS]
          refine SemC.loopK mixed C.flatten.length (fun k ρ σ2 ds => (ds = [r] ∧ ρ 2 = .pp [.v (.pointer (some ⟨bc, 0, none⟩))] 0 ∧ ρ 6 = .v (.pointer (some ⟨b6, 0, none⟩)) ∧ ρ 114 = slT C.flatten ∧ ρ 115 = int C.flatten.length ∧ ρ 116 = int k) ∧ σ2 bc = some (cntRow f bm (lar1 || (C.flatten.take k).any larT)) ∧ σ2 bm = some (.map (mapW m1)) ∧ σ2 b6 = some (.row [o2] 1 1) ∧ σ2 r = some (.obj (.deferred (some []))) ∧ Frm bc bm σ σ2) (by kernel_rfl) ⟨⟨rfl, by simp only [go_sem, xQ, ↓reduceIte, xA, xM, xL, xT, xE, xN, xP, xR, xS, h2, h6], by simp only [go_sem, xQ, ↓reduceIte, xA, xM, xL, xT, xE, xN, xP, xR, xS, h2, h6], rfl, rfl, rfl⟩, by simpa using qc, qm, q6, hdr, hF⟩ ?_
          rintro k ρ σ2 ds hk ⟨⟨rfl, h2, h6, h114, h115, h116⟩, pc, pm, p6, hdr, pF⟩
          rcases get_or_end C.flatten k hk with ⟨x, hx, hlt2, hd2⟩ | hk2
          · have hxf : Fits x.coeffs.length := by
              obtain ⟨y, h1, h2⟩ := List.mem_flatten.1 (mem_of_get hx)
              have := cas_fit hd hc (i + 1) i b n (by omega) hn
              rw [hCC] at this
              exact this y h1 x h2
            rw [any_take hx]
            generalize hzz : (lar1 || (C.flatten.take k).any larT) = z at pc
            have pc' : σ2 bc = some (.row [int f.vars, slN f.nodes, .v (.map (some bm)), .v (.bool z)] 4 1) := pc
            simp only [go_sem, xQ, ↓reduceIte, xA, xM, xL, xT, xE, xN, xP, xR, xS, h2, h6, h114, h115, h116, hlt2, ↓tm_part hx]
            intro b14 hb14
            have y6 : ¬ b6 = b14 := nn hb14 p6
            have yc : ¬ bc = b14 := nn hb14 pc
            have ym : ¬ bm = b14 := nn hb14 pm
            have yc' : ¬ b14 = bc := fun e => yc e.symm
            have yr : ¬ r = b14 := fun e => by rw [← e, hdr] at hb14; cases hb14
            cases z with
            | true =>
              simp only [go_sem, xQ, ↓reduceIte, xA, xM, xL, xT, xE, xN, xP, xR, xS, h2, h6, h114, h115, h116, hlt2, ↓tm_part hx, pc', y6, yc, yc', ym]
              refine ⟨by rw [wrap_succ _ (by omega)], by rw [← Bool.or_assoc, hzz]; rfl, ?_⟩
              simp only [go_sem, xQ, ↓reduceIte, xA, xM, xL, xT, xE, xN, xP, xR, xS, ym, y6, pm, p6, m6', kbc, yr, hdr, rc']
              exact (pF.fresh hb14 _).own (.inl rfl) _
            | false =>
              simp only [go_sem, xQ, ↓reduceIte, xA, xM, xL, xT, xE, xN, xP, xR, xS, h2, h6, h114, h115, h116, hlt2, ↓tm_part hx, pc', y6, yc, yc', ym]
              refine dcallB_use (f159 x hxf) rfl ?_
              simp only [go_sem, xQ, ↓reduceIte, xA, xM, xL, xT, xE, xN, xP, xR, xS, h2, h6, h114, h115, h116, hlt2, ↓tm_part hx, pc', y6, yc, yc', ym]
              refine ⟨by rw [wrap_succ _ (by omega)], by rw [← Bool.or_assoc, hzz, larT, Bool.false_or, decide_not]; rfl, ?_⟩
              simp only [go_sem, xQ, ↓reduceIte, xA, xM, xL, xT, xE, xN, xP, xR, xS, ym, y6, pm, p6, m6', kbc, yr, hdr, rc']
              exact (pF.fresh hb14 _).own (.inl rfl) _
          · subst hk2
            rw [List.take_length] at pc
            simp only [go_sem, xQ, ↓reduceIte, xA, xM, xL, xT, xE, xN, xP, xR, xS, h2, h6, h114, h115, h116, Nat.lt_irrefl, p6, hdr]
            obtain ⟨w1, w2, w3, w4⟩ := hMM.fin hd hn hCC
            exact ⟨slC C, _, hz _ _, Drop.refl _, hCC ▸ hK m1 (lar1 || larC C) _ w1 w2 w3 w4 hMM.new (by rw [ers_ne _ _ _ rc]; exact pc) (by rw [ers_ne _ _ _ rm]; exact pm) (by rw [ers_upd]; exact pF.new hr0 _)⟩
    · rintro e σ' r hr' hF hdr
      exact hF.elim
  · have e40 : ((4 : Int) = 0) = False := eq_false (by decide)
    have e41 : ((4 : Int) = 1) = False := eq_false (by decide)
    have e42 : ((4 : Int) = 2) = False := eq_false (by decide)
    have e43 : ((4 : Int) = 3) = False := eq_false (by decide)
    simp only [go_sem, xQ, ↓reduceIte, xA, xM, xL, xT, xE, xN, xP, xR, xS, hbc', m5, m5', k5, k5', n65, n65', m6, m6', k6, k6', hk, e40, e41, e42, e43]
    refine callB_use (f223 f i b) rfl ?_
    simp only [go_sem, xQ, ↓reduceIte, xA, xM, xL, xT, xE, xN, xP, xR, xS, hbc', m5, m5', k5, k5', n65, n65', m6, m6', k6, k6', hk]
    have hCS : casW f.nodes ((i : Int), b) = (subW f.nodes n b).flatten := by rw [hCe, hk]; rfl
    refine SemC.rangeE (xs := waysX n b) (D := ownD n) (E := noD) (pre := fun _ => True) (f := 252) (first := []) (captured := [.pp (fmC f) 0, .pp [int i, .v (.bool b)] 0]) mixed (by simp only [go_sem, xQ, ↓reduceIte, xA, xM, xL, xT, xE, xN, xP, xR, xS]) (f252 f i b n hn hkf) (by decide) (by kernel_rfl) (by kernel_rfl) own_ctl noD_ctl (fun _ _ _ _ _ _ => trivial)
      (fun k σ' => ∃ (m1 : List (WayT × AV)) (lar1 : Bool) (o : AV), (MidL f.nodes i n b m lar k m1 lar1 ∧ ((∀ σ σ' : Sig, Fz σ σ' o (slC ((subW f.nodes n b).take k).flatten)) ∧ o.cells? = some [o])) ∧ σ' bc = some (cntRow f bm lar1) ∧ σ' bm = some (.map (mapW m1)) ∧ σ' b6 = some (.row [o] 1 1) ∧  Frm bc bm σ σ')
      (fun e σ' => False)
      (fun k x ρ1 σ' => ∃ (j b8 : Nat) (m1 : List (WayT × AV)) (lar1 : Bool) (o : AV), (n.kids[k]? = some (j : Int) ∧ ρ1 2 = .pp [.v (.pointer (some ⟨bc, 0, none⟩))] 0 ∧ ρ1 6 = .v (.pointer (some ⟨b6, 0, none⟩)) ∧ ρ1 12 = .v (.pointer (some ⟨b8, 0, none⟩)) ∧  MidL f.nodes i n b m lar k m1 lar1 ∧ ((∀ σ σ' : Sig, Fz σ σ' o (slC ((subW f.nodes n b).take k).flatten)) ∧ o.cells? = some [o])) ∧ σ' b8 = some (.row [int j, .v (.bool (b != decide (n.kind = 2)))] 2 1) ∧ σ' bc = some (cntRow f bm lar1) ∧ σ' bm = some (.map (mapW m1)) ∧ σ' b6 = some (.row [o] 1 1) ∧  Frm bc bm σ σ')
      (by intros; repeat' (first | exact Closed.row (fun h => h) | exact Closed.grow (fun _ h => h) | exact Closed.map (fun h => h) | exact Frm.closed (fun x hx => by first | exact hx | exact (un hx).2 | exact (un (un hx).2).2 | exact (un (un (un hx).2).2).2 | exact (un (un (un (un hx).2).2).2).2) | exact Closed.const _ | refine Closed.ex fun _ => ?_ | refine Closed.and ?_ ?_))
      (by intros; repeat' (first | exact Closed.row (fun h => h) | exact Closed.grow (fun _ h => h) | exact Closed.map (fun h => h) | exact Frm.closed (fun x hx => by first | exact hx | exact (un hx).2 | exact (un (un hx).2).2 | exact (un (un (un hx).2).2).2 | exact (un (un (un (un hx).2).2).2).2) | exact Closed.const _ | refine Closed.ex fun _ => ?_ | refine Closed.and ?_ ?_))
      (by intros; repeat' (first | exact Closed.row (fun h => h) | exact Closed.grow (fun _ h => h) | exact Closed.map (fun h => h) | exact Frm.closed (fun x hx => by first | exact hx | exact (un hx).2 | exact (un (un hx).2).2 | exact (un (un (un hx).2).2).2 | exact (un (un (un (un hx).2).2).2).2) | exact Closed.const _ | refine Closed.ex fun _ => ?_ | refine Closed.and ?_ ?_))
      ?_ ?_ ?_ ?_ ?_
    · exact ⟨m, lar, _, ⟨MidL.zero hm, fun _ _ => .nil, rfl⟩, by simp only [go_sem, xQ, ↓reduceIte, xA, xM, xL, xT, xE, xN, xP, xR, xS, m5, m6]; exact hbc, by simp only [go_sem, xQ, ↓reduceIte, xA, xM, xL, xT, xE, xN, xP, xR, xS, k5, k6]; exact hbm, by simp only [go_sem, xQ, ↓reduceIte, xA, xM, xL, xT, xE, xN, xP, xR, xS], (Frm.refl.new hb5 _).new hb6 _⟩
    · rintro k x E σ' lq hE hx ⟨m1, lar1, o, ⟨hM, ⟨hoo, hoc⟩⟩, qc, qm, q6,  hF⟩
      obtain ⟨c, hc', rfl⟩ := waysX_get hx
      obtain ⟨j, rfl⟩ := Int.eq_ofNat_of_zero_le (hd i n hn c (mem_of_get hc')).1
      have e2 : E 2 = .pp [.v (.pointer (some ⟨bc, 0, none⟩))] 0 := by rw [hE 2 (by decide)]; simp only [go_sem, xQ, ↓reduceIte, xA, xM, xL, xT, xE, xN, xP, xR, xS]
      have e6 : E 6 = .v (.pointer (some ⟨b6, 0, none⟩)) := by rw [hE 6 (by decide)]; simp only [go_sem, xQ, ↓reduceIte, xA, xM, xL, xT, xE, xN, xP, xR, xS]
      skip
      simp only [go_sem, xQ, ↓reduceIte, xA, xM, xL, xT, xE, xN, xP, xR, xS, e2, e6]
      intro b8 hb8
      have x6 : ¬ b6 = b8 := nn hb8 q6
      have xc : ¬ bc = b8 := nn hb8 qc
      have xm : ¬ bm = b8 := nn hb8 qm
      skip
      simp only [go_sem, xQ, ↓reduceIte, xA, xM, xL, xT, xE, xN, xP, xR, xS, e2, e6, hc']
      refine ⟨(Keep.refl _ _).upd (keep_none hb8), j, b8, m1, lar1, o, ?_⟩
      simp only [go_sem, xQ, ↓reduceIte, xA, xM, xL, xT, xE, xN, xP, xR, xS, e2, e6, hc', x6, xc, xm, q6, qc, qm, hc']
      exact ⟨⟨hM, hoo, hoc⟩, hF.fresh hb8 _⟩
    · rintro k x ρ1 σ' lq hx ⟨j, b8, m1, lar1, o, ⟨hc', h2, h6, h7, hM, hoo, hoc⟩, q8, qc, qm, q6, hF⟩
      simp only [go_sem, xQ, ↓reduceIte, xA, xM, xL, xT, xE, xN, xP, xR, xS, h2, h6, h7, q8, q6]
      obtain ⟨nc, hnc⟩ : ∃ nc, f.nodes[j]? = some nc := ⟨f.nodes[j]'(by have := (hd i n hn _ (mem_of_get hc')).2; have := lt_of_getElem? hn; omega), List.getElem?_eq_getElem _⟩
      have hji : (j : Int) < (i : Int) := (hd i n hn _ (mem_of_get hc')).2
      have hbk := bad_kid hd hn hbad (mem_of_get hc')
      obtain ⟨kl1, kl2, _⟩ := (cnt_cas hd hok (j + 1) j (b != decide (n.kind = 2)) nc (by omega) hnc).2 hbk
      have hsg := subW_get (l := f.nodes) (b := b) hc'
      have htk := take_succ hsg
      refine xcallB_a (ih j (by omega) (b != decide (n.kind = 2)) m1 lar1 _ _ hbk qc qm hM.memo ?_) rfl
      intro m2 lar2 σ2 hm2 u1 u2 u3 u4 qc2 qm2 hF2
      have hK1 := hF2.keep1 qc qm
      have q62 : σ2 b6 = some (.row [o] 1 1) := hK1 _ _ _ q6
      have hK2 := Frm.keep (n := n) qc own_cnt qm hF2
      have hM2 := hM.succ hc' hji hm2 u1 u2 u3 u4
      have hFF := hF.trans hF2
      refine ⟨hK1, ?_⟩
      have hfl := flat_le (l := subW f.nodes n b) k
      rw [← hCS] at hfl
      simp only [go_sem, xQ, ↓reduceIte, xA, xM, xL, xT, xE, xN, xP, xR, xS, h2, h6, h7, q62, hoc]
      refine callB_fz (f257 [((subW f.nodes n b).take k).flatten, casW f.nodes ((j : Int), b != decide (n.kind = 2))] (by simp) (by simp only [List.flatten_cons, List.flatten_nil, List.append_nil, List.length_append]; omega)) (by exact FzL.cons (Fz.sl (FzL.cons (hoo _ _) (FzL.cons (.refl _) .nil))) .nil) ?_
      simp only [go_sem, xQ, ↓reduceIte, xA, xM, xL, xT, xE, xN, xP, xR, xS, h2, h6, h7, q62]
      refine ⟨hK2.upd (keep_row q6 (own_row (by decide))), m2, lar2, slC [((subW f.nodes n b).take k).flatten, casW f.nodes ((j : Int), b != decide (n.kind = 2))].flatten, ⟨hM2, fun _ _ => ?_, rfl⟩, ?_⟩
      · rw [htk]
        have e : [((subW f.nodes n b).take k).flatten, casW f.nodes ((j : Int), b != decide (n.kind = 2))].flatten = ((subW f.nodes n b).take k ++ [casW f.nodes ((j : Int), b != decide (n.kind = 2))]).flatten := by simp
        rw [e]
        exact .refl _
      · simp only [go_sem, xQ, ↓reduceIte, xA, xM, xL, xT, xE, xN, xP, xR, xS, m6, k6, qc2, qm2]
        exact hFF.new hb6 _
    · rintro σ' r hr' ⟨m1, lar1, o, ⟨hMM, ⟨hoo, hoc⟩⟩, qc, qm, q6,  hF⟩ hdr
      rw [waysX_len] at hMM
      have r6 : ¬ b6 = r := dn hdr q6
      have rc : ¬ bc = r := dn hdr qc
      have rm : ¬ bm = r := fun e => by rw [e, hdr] at qm; cases qm
      have r6' : ¬ r = b6 := fun e => r6 e.symm
      have rc' : ¬ r = bc := fun e => rc e.symm
      have rm' : ¬ r = bm := fun e => rm e.symm
      have hr0 : σ r = none := (un (un hr').2).2
      rw [waysX_len, ← subW_len (l := f.nodes) (b := b), List.take_length] at hoo
      obtain ⟨C, hCC, hC0⟩ : ∃ C, casW f.nodes ((i : Int), b) = C ∧ C = (subW f.nodes n b).flatten := ⟨_, rfl, hCS⟩
      rw [hCC] at cl1 cl2
      have hz : ∀ σ σ' : Sig, Fz σ σ' o (slC C) := fun σ σ' => by rw [hC0]; exact hoo _ _
      simp only [go_sem, xQ, ↓reduceIte, xA, xM, xL, xT, xE, xN, xP, xR, xS, q6]
      have hfl : C.flatten.length ≤ 64 * 32 := Nat.le_trans (flat_max C) (Nat.mul_le_mul cl1 cl2)
      refine callB_fz (f258 C (by omega) (by omega)) (.cons (hz _ _) .nil) ?_
      simp only [go_sem, xQ, ↓reduceIte, xA, xM, xL, xT, xE, xN, xP, xR, xS]
      refine SemC.loopK mixed C.flatten.length (fun k ρ σ2 ds => (ds = [r] ∧ ρ 2 = .pp [.v (.pointer (some ⟨bc, 0, none⟩))] 0 ∧ ρ 6 = .v (.pointer (some ⟨b6, 0, none⟩)) ∧ ρ 114 = slT C.flatten ∧ ρ 115 = int C.flatten.length ∧ ρ 116 = int k) ∧ σ2 bc = some (cntRow f bm (lar1 || (C.flatten.take k).any larT)) ∧ σ2 bm = some (.map (mapW m1)) ∧ σ2 b6 = some (.row [o] 1 1) ∧ σ2 r = some (.obj (.deferred (some []))) ∧ Frm bc bm σ σ2) (by kernel_rfl) ⟨⟨rfl, by simp only [go_sem, xQ, ↓reduceIte, xA, xM, xL, xT, xE, xN, xP, xR, xS], by simp only [go_sem, xQ, ↓reduceIte, xA, xM, xL, xT, xE, xN, xP, xR, xS], rfl, rfl, rfl⟩, by simpa using qc, qm, q6, hdr, hF⟩ ?_
      rintro k ρ σ2 ds hk ⟨⟨rfl, h2, h6, h114, h115, h116⟩, pc, pm, p6, hdr, pF⟩
      rcases get_or_end C.flatten k hk with ⟨x, hx, hlt2, hd2⟩ | hk2
      · have hxf : Fits x.coeffs.length := by
          obtain ⟨y, h1, h2⟩ := List.mem_flatten.1 (mem_of_get hx)
          have := cas_fit hd hc (i + 1) i b n (by omega) hn
          rw [hCC] at this
          exact this y h1 x h2
        rw [any_take hx]
        generalize hzz : (lar1 || (C.flatten.take k).any larT) = z at pc
        have pc' : σ2 bc = some (.row [int f.vars, slN f.nodes, .v (.map (some bm)), .v (.bool z)] 4 1) := pc
        simp only [go_sem, xQ, ↓reduceIte, xA, xM, xL, xT, xE, xN, xP, xR, xS, h2, h6, h114, h115, h116, hlt2, ↓tm_part hx]
        intro b14 hb14
        have y6 : ¬ b6 = b14 := nn hb14 p6
        have yc : ¬ bc = b14 := nn hb14 pc
        have ym : ¬ bm = b14 := nn hb14 pm
        have yc' : ¬ b14 = bc := fun e => yc e.symm
        have yr : ¬ r = b14 := fun e => by rw [← e, hdr] at hb14; cases hb14
        cases z with
        | true =>
          simp only [go_sem, xQ, ↓reduceIte, xA, xM, xL, xT, xE, xN, xP, xR, xS, h2, h6, h114, h115, h116, hlt2, ↓tm_part hx, pc', y6, yc, yc', ym]
          refine ⟨by rw [wrap_succ _ (by omega)], by rw [← Bool.or_assoc, hzz]; rfl, ?_⟩
          simp only [go_sem, xQ, ↓reduceIte, xA, xM, xL, xT, xE, xN, xP, xR, xS, ym, y6, pm, p6, m6', kbc, yr, hdr, rc']
          exact (pF.fresh hb14 _).own (.inl rfl) _
        | false =>
          simp only [go_sem, xQ, ↓reduceIte, xA, xM, xL, xT, xE, xN, xP, xR, xS, h2, h6, h114, h115, h116, hlt2, ↓tm_part hx, pc', y6, yc, yc', ym]
          refine dcallB_use (f159 x hxf) rfl ?_
          simp only [go_sem, xQ, ↓reduceIte, xA, xM, xL, xT, xE, xN, xP, xR, xS, h2, h6, h114, h115, h116, hlt2, ↓tm_part hx, pc', y6, yc, yc', ym]
          refine ⟨by rw [wrap_succ _ (by omega)], by rw [← Bool.or_assoc, hzz, larT, Bool.false_or, decide_not]; rfl, ?_⟩
          simp only [go_sem, xQ, ↓reduceIte, xA, xM, xL, xT, xE, xN, xP, xR, xS, ym, y6, pm, p6, m6', kbc, yr, hdr, rc']
          exact (pF.fresh hb14 _).own (.inl rfl) _
      · subst hk2
        rw [List.take_length] at pc
        simp only [go_sem, xQ, ↓reduceIte, xA, xM, xL, xT, xE, xN, xP, xR, xS, h2, h6, h114, h115, h116, Nat.lt_irrefl, p6, hdr]
        obtain ⟨w1, w2, w3, w4⟩ := hMM.fin hd hn hCC
        exact ⟨slC C, _, hz _ _, Drop.refl _, hCC ▸ hK m1 (lar1 || larC C) _ w1 w2 w3 w4 hMM.new (by rw [ers_ne _ _ _ rc]; exact pc) (by rw [ers_ne _ _ _ rm]; exact pm) (by rw [ers_upd]; exact pF.new hr0 _)⟩
    · rintro e σ' r hr' hF hdr
      exact hF.elim
end Go.AL

/- Cases. -/
set_option linter.unusedVariables false
set_option linter.unusedSimpArgs false
namespace Go.AL
open Go.Proofs
variable {Γ : Glob}
attribute [local irreducible] codeW opsW dopsW
end Go.AL

/- Print of formulas; the same cases. -/
set_option linter.unusedVariables false
set_option linter.unusedSimpArgs false
namespace Go.AL
open Go.Proofs
variable {Γ : Glob}
attribute [local irreducible] codeW opsW dopsW
theorem f51 (a b : List (List Tm)) (ha : Fits a.length) (hal : ∀ x ∈ a, Fits x.length ∧ ∀ t ∈ x, Fits t.coeffs.length) : PCalls Tryz.prog Γ 51 [slC a, slC b] (.v (.bool (decide (a = b)))) := by
  refine pcalls (ok51 Γ) fun σ => ?_
  by_cases hn : (a.length : Int) = b.length
  · simp only [go_sem, xQ, ↓reduceIte, xA, xM, xL, xT, xE, xN, xP, xR, xS, Tryz.f51, hn]
    refine SemC.loopK mixed a.length (fun k ρ σ' ds => σ' = σ ∧ ds = [] ∧ ρ 0 = slC a ∧ ρ 1 = slC b ∧ ρ 13 = int a.length ∧ ρ 14 = int k ∧ a.take k = b.take k) (by kernel_rfl) ⟨rfl, rfl, rfl, rfl, by simp only [go_sem, xQ, ↓reduceIte, xA, xM, xL, xT, xE, xN, xP, xR, xS, hn], rfl, rfl⟩ ?_
    rintro k ρ σ' ds hk ⟨rfl, rfl, h0, h1, h13, h14, hz⟩
    rcases get_or_end a k hk with ⟨x, hx, hlt, hd⟩ | hk
    · rcases get_or_end b k (by omega) with ⟨y, hy, hlt2, hd2⟩ | hk2
      · obtain ⟨hxl, hxt⟩ := hal x (mem_of_get hx)
        by_cases hl : (x.length : Int) = y.length
        · simp only [go_sem, xQ, ↓reduceIte, xA, xM, xL, xT, xE, xN, xP, xR, xS, h0, h1, h13, h14, hlt, hlt2, hx, hy, hl]
          refine SemC.loopK mixed x.length (fun j ρ σ2 ds => σ2 = σ' ∧ ds = [] ∧ ρ 0 = slC a ∧ ρ 1 = slC b ∧ ρ 5 = int k ∧ ρ 13 = int a.length ∧ ρ 14 = int k ∧ ρ 32 = int x.length ∧ ρ 33 = int j ∧ x.take j = y.take j) (by kernel_rfl) ⟨rfl, rfl, by simp only [go_sem, xQ, ↓reduceIte, xA, xM, xL, xT, xE, xN, xP, xR, xS, h0], by simp only [go_sem, xQ, ↓reduceIte, xA, xM, xL, xT, xE, xN, xP, xR, xS, h1], by simp only [go_sem, xQ, ↓reduceIte, xA, xM, xL, xT, xE, xN, xP, xR, xS, h14], by simp only [go_sem, xQ, ↓reduceIte, xA, xM, xL, xT, xE, xN, xP, xR, xS, h13], by simp only [go_sem, xQ, ↓reduceIte, xA, xM, xL, xT, xE, xN, xP, xR, xS, h14], by simp only [go_sem, xQ, ↓reduceIte, xA, xM, xL, xT, xE, xN, xP, xR, xS, hl], rfl, rfl⟩ ?_
          rintro j ρ σ2 ds hj ⟨rfl, rfl, h0, h1, h5, h13, h14, h32, h33, hz2⟩
          rcases get_or_end x j hj with ⟨s, hs, hlt3, hd3⟩ | hj
          · rcases get_or_end y j (by omega) with ⟨t, ht, hlt4, hd4⟩ | hj2
            · simp only [go_sem, xQ, ↓reduceIte, xA, xM, xL, xT, xE, xN, xP, xR, xS, h0, h1, h5, h13, h14, h32, h33, hlt, hlt2, hx, hy, hlt3, hlt4, ↓tm_part hs, ↓tm_part ht]
              refine callB_use (f82 s t (hxt s (mem_of_get hs))) rfl ?_
              by_cases hst : s = t
              · simp only [go_sem, xQ, ↓reduceIte, xA, xM, xL, xT, xE, xN, xP, xR, xS, h0, h1, h5, h13, h14, h32, h33, hst, eq_self_iff_true]
                exact ⟨hlt3, by rw [wrap_succ _ (by omega)], by rw [take_succ hs, take_succ ht, hz2, hst]⟩
              · simp only [go_sem, xQ, ↓reduceIte, xA, xM, xL, xT, xE, xN, xP, xR, xS, h0, h1, h5, h13, h14, h32, h33, hst]
                exact retP_eq (by
                  have : ¬ a = b := fun e => hst (by rw [e, hy] at hx; cases hx; rw [ht] at hs; cases hs; rfl)
                  simp [this])
            · omega
          · subst hj
            simp only [go_sem, xQ, ↓reduceIte, xA, xM, xL, xT, xE, xN, xP, xR, xS, h0, h1, h5, h13, h14, h32, h33, Nat.lt_irrefl]
            have hxy : x = y := by
              rw [List.take_length] at hz2
              rw [hz2, show x.length = y.length by omega, List.take_length]
            exact ⟨hlt, by rw [wrap_succ _ (by omega)], by rw [take_succ hx, take_succ hy, hz, hxy]⟩
        · simp only [go_sem, xQ, ↓reduceIte, xA, xM, xL, xT, xE, xN, xP, xR, xS, h0, h1, h13, h14, hlt, hlt2, hx, hy, hl]
          exact retP_eq (by
            have : ¬ a = b := fun e => hl (by rw [e, hy] at hx; cases hx; rfl)
            simp [this])
      · omega
    · subst hk
      simp only [go_sem, xQ, ↓reduceIte, xA, xM, xL, xT, xE, xN, xP, xR, xS, h0, h1, h13, h14, Nat.lt_irrefl]
      have he : a = b := by
        rw [List.take_length] at hz
        rw [hz, show a.length = b.length by omega, List.take_length]
      exact retP_eq (by simp [he])
  · simp only [go_sem, xQ, ↓reduceIte, xA, xM, xL, xT, xE, xN, xP, xR, xS, Tryz.f51, hn]
    exact retP_eq (by have : ¬ a = b := fun e => hn (by rw [e]); simp [this])
def lineF (w : ByteArray) (l : List Int) : ByteArray := joinP (w :: l.map itoaP) bSp ++ bNl
def I64 (n : Int) : Prop := -9223372036854775808 ≤ n ∧ n ≤ 9223372036854775807
theorem itoa_len {n : Int} (h : I64 n) : (itoaP n).data.toList.length ≤ 21 := by
  have := Lib.itoa_length_le n h.1 h.2
  simpa [itoaP] using this
end Go.AL

/- Print of formulas. -/
set_option linter.unusedVariables false
set_option linter.unusedSimpArgs false
namespace Go.AL
open Go.Proofs
variable {Γ : Glob}
attribute [local irreducible] codeW opsW dopsW
theorem within_zero {n lo hi : Int} (h : withinE n lo hi = 0) : lo ≤ n ∧ n ≤ hi := by
  unfold withinE at h
  split at h
  · cases h
  · omega
theorem Bld.closed {σ0 σs : Sig} {b : Nat} {v : Value} {l : List UInt8} (h0 : ∀ x, σs x = none → σ0 x = none) : Closed noD σs fun σ' => Bld σ0 σ' b v l := fun σ' x y hx h => by
  obtain ⟨h1, ⟨p, h2, hp⟩, h3, h4⟩ := h
  have hxn : ∀ cs el, σ' x ≠ some (.var cs el) := fun cs el e => by
    rcases hx with hx | ⟨_, z, hx, hz⟩ | ⟨z, hx, hz⟩
    · rw [hx] at e; cases e
    · rw [hx] at e; cases e; exact hz
    · exact hz
  have hx0 : σ0 x = none := by
    rcases hx with hx | ⟨hx, _⟩ | ⟨z, hx, hz⟩
    · exact h4.free hx
    · exact h0 x hx
    · exact hz.elim
  refine ⟨h1, ⟨p, by rw [upd_ne _ _ _ _ (fun e => hxn _ _ (by rw [← e]; exact h2))]; exact h2, hp⟩, h3.keep fun g hg => upd_ne _ _ _ _ (fun e => ?_), h4.upd hx0⟩
  subst e
  rcases h3 with ⟨rfl, _⟩ | ⟨g', cap, rest, rfl, k1, k2, k3, k4⟩
  · cases hg
  · cases hg; exact hxn _ _ k3
theorem Bld.ne {σ0 σ : Sig} {b : Nat} {v : Value} {l : List UInt8} (h : Bld σ0 σ b v l) {x : Nat} {y : Blk} (hx : σ x = some y) (hy : ∀ cs el, y ≠ .var cs el) : x ≠ b ∧ some x ≠ blkV v := by
  obtain ⟨h1, ⟨p, h2, hp⟩, h3, h4⟩ := h
  refine ⟨fun e => ?_, fun e => h3.ne hx (fun cs => hy cs 5) e.symm⟩
  rw [e, h2] at hx
  cases hx
  exact hy _ _ rfl
theorem Bld.upd {σ0 σ : Sig} {b : Nat} {v : Value} {l : List UInt8} (h : Bld σ0 σ b v l) {x : Nat} (hx : x ≠ b) (hv : some x ≠ blkV v) (h0 : σ0 x = none) (y : Option Blk) : Bld σ0 (upd σ x y) b v l := by
  obtain ⟨h1, ⟨p, h2, hp⟩, h3, h4⟩ := h
  exact ⟨h1, ⟨p, by rw [upd_ne _ _ _ _ (Ne.symm hx)]; exact h2, hp⟩, h3.keep fun g hg => upd_ne _ _ _ _ (fun e => hv (by rw [hg, e])), h4.upd h0⟩
theorem Bld.fresh {σ0 σ : Sig} {b : Nat} {v : Value} {l : List UInt8} (h : Bld σ0 σ b v l) {x : Nat} (hx : σ x = none) (y : Option Blk) : Bld σ0 (AL.upd σ x y) b v l := by
  obtain ⟨p, h2, hp⟩ := h.var
  refine h.upd (fun e => by rw [e, h2] at hx; cases hx) (fun e => ?_) (h.drop.free hx) y
  rcases h.buf with ⟨rfl, _⟩ | ⟨g', cap, rest, rfl, k1, k2, k3, k4⟩
  · cases e
  · cases e; rw [k3] at hx; cases hx
theorem Bld.of_drop {σ0 σ σ' : Sig} {b : Nat} {v : Value} {l : List UInt8} (h : Bld σ0 σ b v l) (hd : Drop σ' σ) : Bld σ0 σ' b v l := by
  have key : ∀ x y, σ x = some y → σ' x = some y := fun x y hx => by
    rcases hd x with h | h
    · rw [hx] at h; cases h
    · rw [← h]; exact hx
  obtain ⟨h1, ⟨p, h2, hp⟩, h3, h4⟩ := h
  refine ⟨h1, ⟨p, key _ _ h2, hp⟩, ?_, hd.trans h4⟩
  rcases h3 with h | ⟨g', cap, rest, rfl, k1, k2, k3, k4⟩
  · exact .inl h
  · exact .inr ⟨g', cap, rest, rfl, k1, k2, key _ _ k3, k4⟩
end Go.AL

/- The laws' examples of chapter 10. -/
set_option linter.unusedVariables false
set_option linter.unusedSimpArgs false
namespace Go.AL
open Go.Proofs
variable {Γ : Glob}
attribute [local irreducible] codeW opsW dopsW
theorem a51 (c : List (List Tm)) (h : Fits c.length ∧ ∀ x ∈ c, Fits x.length ∧ ∀ t ∈ x, Fits t.coeffs.length) : PCalls Tryz.prog Γ 51 [slC c, slC c] (.v (.bool true)) := by
  have := f51 (Γ := Γ) c c h.1 h.2
  simpa using this
end Go.AL

/- awake of chapter 10. -/
set_option linter.unusedVariables false
set_option linter.unusedSimpArgs false
namespace Go.AL
open Go.Proofs
variable {Γ : Glob}
attribute [local irreducible] codeW opsW dopsW
end Go.AL
