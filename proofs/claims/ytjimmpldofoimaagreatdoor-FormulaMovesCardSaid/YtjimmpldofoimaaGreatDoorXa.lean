/- Formulas: their data, the checks of nodes and formulas. -/
import Derived.Test.YtjimmpldofoimaaGreatDoorV1
open Nat renaming reduceEqDiff → xQ, reduceAdd → xA, reduceMul → xM, reduceLeDiff → xL
open Int renaming reduceLT → xT, reduceLE → xE, reduceToNat → xN
open Go.AL renaming retPost_one → xP, retPost_oneN → xR, ers_at' → xS
set_option linter.unusedVariables false
set_option linter.unusedSimpArgs false
namespace Go.AL
open Go.Proofs
variable {Γ : Glob}
attribute [local irreducible] codeW opsW dopsW
structure Nd where
  kind : Int
  term : Tm
  kids : List Int
  deriving DecidableEq, Inhabited
def ndC (n : Nd) : List AV := [int n.kind, slI n.term.coeffs, int n.term.const, slI n.kids]
def ndA (n : Nd) : AV := .agg (ndC n)
def slN (l : List Nd) : AV := .sl (l.flatMap ndC) l.length
structure Fm where
  vars : Int
  nodes : List Nd
  deriving DecidableEq, Inhabited
def fmC (f : Fm) : List AV := [int f.vars, slN f.nodes]
def fmA (f : Fm) : AV := .agg (fmC f)
/-- A node with its index. -/
def atC (n : Nd) (i : Int) : List AV := [int n.kind, slI n.term.coeffs, int n.term.const, slI n.kids, int i]
def atA (n : Nd) (i : Int) : AV := .agg (atC n i)
attribute [go_sem] ndC ndA slN fmC fmA atC atA
theorem ndC_len (n : Nd) : (ndC n).length = 4 := rfl
theorem nd_part {l : List Nd} {k : Nat} {t : Nd} (h : l[k]? = some t) (z : List AV) : TK.part ⟨true, 4, z⟩ (l.flatMap ndC) (k * 4) = some (ndA t) := part_rows (k := ⟨true, 4, z⟩) rfl ndC_len h
theorem nd_get0 {l : List Nd} {k : Nat} {t : Nd} (h : l[k]? = some t) : (l.flatMap ndC)[k * 4]? = some (int t.kind) := rows_get0 ndC_len h (by decide)
theorem pcallsAt {P : Program} {Γ : Glob} {mz : List Nat} {fl : List (Nat × List Bool)} {bf : List (Nat × List Nat)} {f : FuncId} {N : Nat} {c : Code} {rs : List ResultVar} {args : List AV} {r : AV} {σ : Sig} (hf : FnOk (parG P Γ mz fl bf) f N c rs args.length)
    (h : codeW (parG P Γ mz fl bf) none N c (RetPost P rs (retP σ r)) (envOf args) σ []) : ACalls P Γ f args σ fun r' σ' => r' = r ∧ σ' = σ := by
  have := acalls_of_sem hf (codeW_sound hf.mixed _ _ _ _ _ hf.ok h)
  refine ⟨this.1, fun w vs hr hv => ?_⟩
  have h2 := this.2 w vs hr hv
  refine ⟨h2.1, fun cs hroom => ?_⟩
  obtain ⟨e, w', fr, ⟨v, x, σ', g1, g2, g3, g4, hfz, hd⟩, hc⟩ := h2.2 cs hroom
  exact ⟨e, w', fr, ⟨v, r, σ, g1, hfz.rep g3 hd g2, g3.drop hd, g4.trans (hd.ext _), rfl, rfl⟩, hc⟩
theorem callB_mono {P : Program} {Γ : Glob} {fv : AV} {args : List AV} {σ : Sig} {K K' : AV → Sig → Prop} (hk : ∀ r σ', K r σ' → K' r σ') (h : callB P Γ fv args σ K) : callB P Γ fv args σ K' := callOp_mono hk h
def bGe : ByteArray := ⟨#[103, 101]⟩
def bEq : ByteArray := ⟨#[101, 113]⟩
def bNot : ByteArray := ⟨#[110, 111, 116]⟩
def bAnd : ByteArray := ⟨#[97, 110, 100]⟩
def bOr : ByteArray := ⟨#[111, 114]⟩
def strV (s : ByteArray) : AV := .v (.string s)
def boolV (b : Bool) : AV := .v (.bool b)
/-- The table of the kinds of nodes. -/
def sortsT : List AV := [strV bGe, boolV true, .v .nilFunc, strV bEq, boolV true, .v .nilFunc, strV bNot, boolV false, .fn (.func 317) [] [], strV bAnd, boolV false, .fn (.func 318) [] [], strV bOr, boolV false, .fn (.func 320) [] []]
attribute [go_sem] strV boolV
theorem f132 (c : Int) (l : List Int) : PCalls Tryz.prog Γ 132 [int c, slI l] (tmA ⟨l, c⟩) := by
  refine pcalls (ok132 Γ) fun σ => ?_
  simp only [go_sem, xQ, ↓reduceIte, xA, xM, xL, xT, xE, xN, xP, xR, xS, Tryz.f132]
  intro b hb
  simp only [go_sem, xQ, ↓reduceIte, xA, xM, xL, xT, xE, xN, xP, xR, xS]
  exact retP_drop (by repeat (first | exact Drop.refl _ | assumption | refine Drop.upd ?_ (by assumption))) (rfl)
theorem f217 (k : Int) (t : Tm) : PCalls Tryz.prog Γ 217 [int k, tmA t] (ndA ⟨k, t, []⟩) := by
  refine pcalls (ok217 Γ) fun σ => ?_
  simp only [go_sem, xQ, ↓reduceIte, xA, xM, xL, xT, xE, xN, xP, xR, xS, Tryz.f217]
  intro b hb
  simp only [go_sem, xQ, ↓reduceIte, xA, xM, xL, xT, xE, xN, xP, xR, xS]
  exact ⟨.agg (.cons (.refl _) (.cons (.refl _) (.cons (.refl _) (.cons .nil .nil)))), by repeat (first | exact Drop.refl _ | assumption | refine Drop.upd ?_ (by assumption))⟩
theorem f131 : PCalls Tryz.prog Γ 131 [] (fmA ⟨2, [⟨0, ⟨[1, -1], 0⟩, []⟩, ⟨1, ⟨[0, 1], -3⟩, []⟩, ⟨2, ⟨[], 0⟩, [1]⟩, ⟨3, ⟨[], 0⟩, [0, 2]⟩]⟩) := by
  refine pcalls (ok131 Γ) fun σ => ?_
  simp only [go_sem, xQ, ↓reduceIte, xA, xM, xL, xT, xE, xN, xP, xR, xS, Tryz.f131]
  intro b0 hb0
  simp only [go_sem, xQ, ↓reduceIte, xA, xM, xL, xT, xE, xN, xP, xR, xS]
  refine callB_use (f132 0 [1, -1]) rfl ?_
  simp only [go_sem, xQ, ↓reduceIte, xA, xM, xL, xT, xE, xN, xP, xR, xS]
  refine callB_use (f217 0 ⟨[1, -1], 0⟩) rfl ?_
  simp only [go_sem, xQ, ↓reduceIte, xA, xM, xL, xT, xE, xN, xP, xR, xS]
  refine callB_use (f132 (-3) [0, 1]) rfl ?_
  simp only [go_sem, xQ, ↓reduceIte, xA, xM, xL, xT, xE, xN, xP, xR, xS]
  refine callB_use (f217 1 ⟨[0, 1], -3⟩) rfl ?_
  simp only [go_sem, xQ, ↓reduceIte, xA, xM, xL, xT, xE, xN, xP, xR, xS]
  refine ⟨.agg (.cons (.refl _) (.cons (.sl ?_) .nil)), by repeat (first | exact Drop.refl _ | assumption | refine Drop.upd ?_ (by assumption))⟩
  repeat (first | exact FzL.nil | exact FzL.refl _ | refine FzL.cons (by first | exact Fz.refl _ | exact Fz.nil) ?_)
theorem f133 (c : Int) : PCalls Tryz.prog Γ 133 [int c] (tmA ⟨[1], c⟩) := by
  refine pcalls (ok133 Γ) fun σ => ?_
  simp only [go_sem, xQ, ↓reduceIte, xA, xM, xL, xT, xE, xN, xP, xR, xS, Tryz.f133]
  intro b hb
  simp only [go_sem, xQ, ↓reduceIte, xA, xM, xL, xT, xE, xN, xP, xR, xS]
  exact retP_drop (by repeat (first | exact Drop.refl _ | assumption | refine Drop.upd ?_ (by assumption))) (rfl)
theorem f134 (c : Int) (l : List Int) : PCalls Tryz.prog Γ 134 [int c, slI l] (tmA ⟨l, c⟩) := by
  refine pcalls (ok134 Γ) fun σ => ?_
  simp only [go_sem, xQ, ↓reduceIte, xA, xM, xL, xT, xE, xN, xP, xR, xS, Tryz.f134]
  intro b hb
  simp only [go_sem, xQ, ↓reduceIte, xA, xM, xL, xT, xE, xN, xP, xR, xS]
  exact retP_drop (by repeat (first | exact Drop.refl _ | assumption | refine Drop.upd ?_ (by assumption))) (rfl)
theorem f137 (f : Fm) : PCalls Tryz.prog Γ 137 [fmA f] (.fn (.func 220) [] [.pp (fmC f) 0]) := by
  refine pcalls (ok137 Γ) fun σ => ?_
  simp only [go_sem, xQ, ↓reduceIte, xA, xM, xL, xT, xE, xN, xP, xR, xS, Tryz.f137]
/-- What nodes gives, one after the other. -/
def nodesX (l : List Nd) : List AV := l.mapIdx fun i n => atA n (i : Int)
theorem nodesX_get {l : List Nd} {k : Nat} {x : AV} (h : (nodesX l)[k]? = some x) : ∃ n, l[k]? = some n ∧ x = atA n k := by
  rw [nodesX, List.getElem?_mapIdx] at h
  cases hn : l[k]? with
  | none => rw [hn] at h; cases h
  | some n => rw [hn] at h; exact ⟨n, rfl, (Option.some.inj h).symm⟩
theorem f220 (f : Fm) (hl : Fits f.nodes.length) : Iter Tryz.prog Γ noD 220 [] [.pp (fmC f) 0] (fun _ => True) (nodesX f.nodes) := by
  intro yv σ0 I K _ hI hKs h0 hy hK
  refine acalls (ok220 Γ) ?_
  simp only [List.nil_append, List.cons_append]
  simp only [go_sem, xQ, ↓reduceIte, xA, xM, xL, xT, xE, xN, xP, xR, xS, Tryz.f220]
  refine SemC.loopK mixed f.nodes.length (fun k ρ σ' ds => ds = [] ∧ ρ 0 = yv ∧ ρ 1 = .pp (fmC f) 0 ∧ ρ 6 = slN f.nodes ∧ ρ 7 = int f.nodes.length ∧ ρ 8 = int k ∧ I k σ') (by kernel_rfl) ⟨rfl, rfl, rfl, rfl, rfl, rfl, h0⟩ ?_
  rintro k ρ σ' ds hk ⟨rfl, h0', h1, h6, h7, h8, hIk⟩
  rcases get_or_end f.nodes k hk with ⟨n, hn, hlt, hd⟩ | hk
  · simp only [go_sem, xQ, ↓reduceIte, xA, xM, xL, xT, xE, xN, xP, xR, xS, h0', h1, h6, h7, h8, hlt, ↓nd_part hn]
    intro b hb
    have hx : (nodesX f.nodes)[k]? = some (atA n k) := by rw [nodesX, List.getElem?_mapIdx, hn]; rfl
    simp only [go_sem, xQ, ↓reduceIte, xA, xM, xL, xT, xE, xN, xP, xR, xS, h0', h1, h6, h7, h8, hlt, ↓nd_part hn]
    refine callB_mono (fun r σ2 h => ?_) (hy k (atA n k) _ hx (hI k _ b _ (.inl hb) hIk))
    rcases h with ⟨_, ⟨rfl, h⟩ | ⟨rfl, h⟩⟩
    · simp only [go_sem, xQ, ↓reduceIte, xA, xM, xL, xT, xE, xN, xP, xR, xS, h0', h1, h6, h7, h8]
      exact ⟨hlt, by rw [wrap_succ _ (by omega)], h⟩
    · simp only [go_sem, xQ, ↓reduceIte, xA, xM, xL, xT, xE, xN, xP, xR, xS, h0', h1, h6, h7, h8]
      exact h
  · subst hk
    simp only [go_sem, xQ, ↓reduceIte, xA, xM, xL, xT, xE, xN, xP, xR, xS, h0', h1, h6, h7, h8, Nat.lt_irrefl]
    exact hK _ (by rw [nodesX, List.length_mapIdx]; exact hIk)
/-! ### The checks -/
theorem f221 (n : Nd) (i k : Int) : PCalls Tryz.prog Γ 221 [int k, .pp (atC n i) 0] (int (earlierE k i)) := by
  refine pcalls (ok221 Γ) fun σ => ?_
  by_cases h : k < 0
  · simp only [go_sem, xQ, ↓reduceIte, xA, xM, xL, xT, xE, xN, xP, xR, xS, Tryz.f221, h]
    refine callB_use (f144 _ _) rfl ?_
    simp only [go_sem, xQ, ↓reduceIte, xA, xM, xL, xT, xE, xN, xP, xR, xS]
    exact retP_eq (by simp [earlierE, h])
  · simp only [go_sem, xQ, ↓reduceIte, xA, xM, xL, xT, xE, xN, xP, xR, xS, Tryz.f221, h]
    refine callB_use (f144 _ _) rfl ?_
    simp only [go_sem, xQ, ↓reduceIte, xA, xM, xL, xT, xE, xN, xP, xR, xS]
    exact retP_eq (by simp [earlierE, h])
def formE (n : Nd) : Int := firstE [whenE (decide ((0 : Int) < n.term.coeffs.length) || !decide (n.term.const = 0)) 1, whenE (decide ((200 : Int) < n.kids.length)) 5, whenE (decide (n.kind = 2) && !decide ((n.kids.length : Int) = 1)) 2]
def nodeE (n : Nd) (i vars : Int) : Int :=
  if n.kind < 0 ∨ 4 < n.kind then 11
  else if n.kind ≤ 1 then firstE [checkTermE n.term vars, whenE (decide ((0 : Int) < n.kids.length)) 2]
  else firstE [formE n, firstE (n.kids.map fun k => earlierE k i)]
theorem kind5 {n : Int} (h : ¬ (n < 0 ∨ 4 < n)) : n = 0 ∨ n = 1 ∨ n = 2 ∨ n = 3 ∨ n = 4 := by omega
theorem f145 (hG : Γ 0 = some sortsT) (n : Nd) (i vars : Int) (hl : Fits n.term.coeffs.length) (hl2 : Fits n.kids.length) : PCalls Tryz.prog Γ 145 [atA n i, int vars] (int (nodeE n i vars)) := by
  have e32 : ((3 : Int) = 2) = False := eq_false (by decide)
  have e42 : ((4 : Int) = 2) = False := eq_false (by decide)
  refine pcalls (ok145 Γ) fun σ => ?_
  by_cases h0 : n.kind < 0
  · simp only [go_sem, xQ, ↓reduceIte, xA, xM, xL, xT, xE, xN, xP, xR, xS, Tryz.f145, h0]
    exact retP_eq (by rw [nodeE, if_pos (.inl h0)])
  · by_cases h4 : (4 : Int) < n.kind
    · simp only [go_sem, xQ, ↓reduceIte, xA, xM, xL, xT, xE, xN, xP, xR, xS, Tryz.f145, h0, h4]
      exact retP_eq (by rw [nodeE, if_pos (.inr h4)])
    · have hr : nodeE n i vars = if n.kind ≤ 1 then firstE [checkTermE n.term vars, whenE (decide ((0 : Int) < n.kids.length)) 2] else firstE [formE n, firstE (n.kids.map fun k => earlierE k i)] := by
        rw [nodeE, if_neg (by omega)]
      rcases kind5 (n := n.kind) (by omega) with hk | hk | hk | hk | hk
      · simp only [go_sem, xQ, ↓reduceIte, xA, xM, xL, xT, xE, xN, xP, xR, xS, Tryz.f145, hk, hG, sortsT]
        refine dcallB_use (f80 n.term vars hl) rfl ?_
        simp only [go_sem, xQ, ↓reduceIte, xA, xM, xL, xT, xE, xN, xP, xR, xS]
        refine callB_use (f144 _ _) rfl ?_
        simp only [go_sem, xQ, ↓reduceIte, xA, xM, xL, xT, xE, xN, xP, xR, xS]
        refine callB_use (f135 [_, _] (by simp)) rfl ?_
        simp only [go_sem, xQ, ↓reduceIte, xA, xM, xL, xT, xE, xN, xP, xR, xS]
        exact retP_eq (by rw [hr, if_pos (by omega)])
      · simp only [go_sem, xQ, ↓reduceIte, xA, xM, xL, xT, xE, xN, xP, xR, xS, Tryz.f145, hk, hG, sortsT]
        refine dcallB_use (f80 n.term vars hl) rfl ?_
        simp only [go_sem, xQ, ↓reduceIte, xA, xM, xL, xT, xE, xN, xP, xR, xS]
        refine callB_use (f144 _ _) rfl ?_
        simp only [go_sem, xQ, ↓reduceIte, xA, xM, xL, xT, xE, xN, xP, xR, xS]
        refine callB_use (f135 [_, _] (by simp)) rfl ?_
        simp only [go_sem, xQ, ↓reduceIte, xA, xM, xL, xT, xE, xN, xP, xR, xS]
        exact retP_eq (by rw [hr, if_pos (by omega)])
      · have hG0 : Γ 0 = some sortsT := hG
        by_cases h1 : (0 : Int) < n.term.coeffs.length
        · simp only [go_sem, xQ, ↓reduceIte, xA, xM, xL, xT, xE, xN, xP, xR, xS, Tryz.f145, hk, hG, sortsT, h1, e32, e42]
          refine dcallB_use (f144 _ _) rfl ?_
          simp only [go_sem, xQ, ↓reduceIte, xA, xM, xL, xT, xE, xN, xP, xR, xS, e32, e42]
          refine dcallB_use (f144 _ _) rfl ?_
          simp only [go_sem, xQ, ↓reduceIte, xA, xM, xL, xT, xE, xN, xP, xR, xS, e32, e42]
          refine callB_use (f144 _ _) rfl ?_
          simp only [go_sem, xQ, ↓reduceIte, xA, xM, xL, xT, xE, xN, xP, xR, xS, e32, e42]
          refine callB_use (f135 [_, _, _] (by simp)) rfl ?_
          simp only [go_sem, xQ, ↓reduceIte, xA, xM, xL, xT, xE, xN, xP, xR, xS]
          refine callB_use (f218 n.kids hl2 _ (fun k => earlierE k i) (fun x _ => dcall_of (f221 n i x) (by first | (rw [atC, hk]; rfl) | (rw [atC, hk, h2]; rfl)))) rfl ?_
          simp only [go_sem, xQ, ↓reduceIte, xA, xM, xL, xT, xE, xN, xP, xR, xS]
          refine callB_use (f135 _ (by simpa using hl2)) rfl ?_
          simp only [go_sem, xQ, ↓reduceIte, xA, xM, xL, xT, xE, xN, xP, xR, xS]
          refine callB_use (f135 [_, _] (by simp)) rfl ?_
          simp only [go_sem, xQ, ↓reduceIte, xA, xM, xL, xT, xE, xN, xP, xR, xS]
          exact retP_eq (by rw [hr, if_neg (by omega), formE]; simp only [h1, hk, e32, e42, decide_true, decide_false, Bool.true_or, Bool.false_or, Bool.not_true, Bool.not_false, Bool.true_and, Bool.false_and, eq_self_iff_true])
        · by_cases h2 : n.term.const = 0
          · simp only [go_sem, xQ, ↓reduceIte, xA, xM, xL, xT, xE, xN, xP, xR, xS, Tryz.f145, hk, hG, sortsT, h1, h2, e32, e42]
            refine dcallB_use (f144 _ _) rfl ?_
            simp only [go_sem, xQ, ↓reduceIte, xA, xM, xL, xT, xE, xN, xP, xR, xS, e32, e42]
            refine dcallB_use (f144 _ _) rfl ?_
            simp only [go_sem, xQ, ↓reduceIte, xA, xM, xL, xT, xE, xN, xP, xR, xS, e32, e42]
            refine callB_use (f144 _ _) rfl ?_
            simp only [go_sem, xQ, ↓reduceIte, xA, xM, xL, xT, xE, xN, xP, xR, xS, e32, e42]
            refine callB_use (f135 [_, _, _] (by simp)) rfl ?_
            simp only [go_sem, xQ, ↓reduceIte, xA, xM, xL, xT, xE, xN, xP, xR, xS]
            refine callB_use (f218 n.kids hl2 _ (fun k => earlierE k i) (fun x _ => dcall_of (f221 n i x) (by first | (rw [atC, hk]; rfl) | (rw [atC, hk, h2]; rfl)))) rfl ?_
            simp only [go_sem, xQ, ↓reduceIte, xA, xM, xL, xT, xE, xN, xP, xR, xS]
            refine callB_use (f135 _ (by simpa using hl2)) rfl ?_
            simp only [go_sem, xQ, ↓reduceIte, xA, xM, xL, xT, xE, xN, xP, xR, xS]
            refine callB_use (f135 [_, _] (by simp)) rfl ?_
            simp only [go_sem, xQ, ↓reduceIte, xA, xM, xL, xT, xE, xN, xP, xR, xS]
            exact retP_eq (by rw [hr, if_neg (by omega), formE]; simp only [h1, h2, hk, e32, e42, decide_true, decide_false, Bool.true_or, Bool.false_or, Bool.not_true, Bool.not_false, Bool.true_and, Bool.false_and, eq_self_iff_true])
          · simp only [go_sem, xQ, ↓reduceIte, xA, xM, xL, xT, xE, xN, xP, xR, xS, Tryz.f145, hk, hG, sortsT, h1, h2, e32, e42]
            refine dcallB_use (f144 _ _) rfl ?_
            simp only [go_sem, xQ, ↓reduceIte, xA, xM, xL, xT, xE, xN, xP, xR, xS, e32, e42]
            refine dcallB_use (f144 _ _) rfl ?_
            simp only [go_sem, xQ, ↓reduceIte, xA, xM, xL, xT, xE, xN, xP, xR, xS, e32, e42]
            refine callB_use (f144 _ _) rfl ?_
            simp only [go_sem, xQ, ↓reduceIte, xA, xM, xL, xT, xE, xN, xP, xR, xS, e32, e42]
            refine callB_use (f135 [_, _, _] (by simp)) rfl ?_
            simp only [go_sem, xQ, ↓reduceIte, xA, xM, xL, xT, xE, xN, xP, xR, xS]
            refine callB_use (f218 n.kids hl2 _ (fun k => earlierE k i) (fun x _ => dcall_of (f221 n i x) (by first | (rw [atC, hk]; rfl) | (rw [atC, hk, h2]; rfl)))) rfl ?_
            simp only [go_sem, xQ, ↓reduceIte, xA, xM, xL, xT, xE, xN, xP, xR, xS]
            refine callB_use (f135 _ (by simpa using hl2)) rfl ?_
            simp only [go_sem, xQ, ↓reduceIte, xA, xM, xL, xT, xE, xN, xP, xR, xS]
            refine callB_use (f135 [_, _] (by simp)) rfl ?_
            simp only [go_sem, xQ, ↓reduceIte, xA, xM, xL, xT, xE, xN, xP, xR, xS]
            exact retP_eq (by rw [hr, if_neg (by omega), formE]; simp only [h1, h2, hk, e32, e42, decide_true, decide_false, Bool.true_or, Bool.false_or, Bool.not_true, Bool.not_false, Bool.true_and, Bool.false_and, eq_self_iff_true])
      · have hG0 : Γ 0 = some sortsT := hG
        by_cases h1 : (0 : Int) < n.term.coeffs.length
        · simp only [go_sem, xQ, ↓reduceIte, xA, xM, xL, xT, xE, xN, xP, xR, xS, Tryz.f145, hk, hG, sortsT, h1, e32, e42]
          refine dcallB_use (f144 _ _) rfl ?_
          simp only [go_sem, xQ, ↓reduceIte, xA, xM, xL, xT, xE, xN, xP, xR, xS, e32, e42]
          refine dcallB_use (f144 _ _) rfl ?_
          simp only [go_sem, xQ, ↓reduceIte, xA, xM, xL, xT, xE, xN, xP, xR, xS, e32, e42]
          refine callB_use (f144 _ _) rfl ?_
          simp only [go_sem, xQ, ↓reduceIte, xA, xM, xL, xT, xE, xN, xP, xR, xS, e32, e42]
          refine callB_use (f135 [_, _, _] (by simp)) rfl ?_
          simp only [go_sem, xQ, ↓reduceIte, xA, xM, xL, xT, xE, xN, xP, xR, xS]
          refine callB_use (f218 n.kids hl2 _ (fun k => earlierE k i) (fun x _ => dcall_of (f221 n i x) (by first | (rw [atC, hk]; rfl) | (rw [atC, hk, h2]; rfl)))) rfl ?_
          simp only [go_sem, xQ, ↓reduceIte, xA, xM, xL, xT, xE, xN, xP, xR, xS]
          refine callB_use (f135 _ (by simpa using hl2)) rfl ?_
          simp only [go_sem, xQ, ↓reduceIte, xA, xM, xL, xT, xE, xN, xP, xR, xS]
          refine callB_use (f135 [_, _] (by simp)) rfl ?_
          simp only [go_sem, xQ, ↓reduceIte, xA, xM, xL, xT, xE, xN, xP, xR, xS]
          exact retP_eq (by rw [hr, if_neg (by omega), formE]; simp only [h1, hk, e32, e42, decide_true, decide_false, Bool.true_or, Bool.false_or, Bool.not_true, Bool.not_false, Bool.true_and, Bool.false_and, eq_self_iff_true])
        · by_cases h2 : n.term.const = 0
          · simp only [go_sem, xQ, ↓reduceIte, xA, xM, xL, xT, xE, xN, xP, xR, xS, Tryz.f145, hk, hG, sortsT, h1, h2, e32, e42]
            refine dcallB_use (f144 _ _) rfl ?_
            simp only [go_sem, xQ, ↓reduceIte, xA, xM, xL, xT, xE, xN, xP, xR, xS, e32, e42]
            refine dcallB_use (f144 _ _) rfl ?_
            simp only [go_sem, xQ, ↓reduceIte, xA, xM, xL, xT, xE, xN, xP, xR, xS, e32, e42]
            refine callB_use (f144 _ _) rfl ?_
            simp only [go_sem, xQ, ↓reduceIte, xA, xM, xL, xT, xE, xN, xP, xR, xS, e32, e42]
            refine callB_use (f135 [_, _, _] (by simp)) rfl ?_
            simp only [go_sem, xQ, ↓reduceIte, xA, xM, xL, xT, xE, xN, xP, xR, xS]
            refine callB_use (f218 n.kids hl2 _ (fun k => earlierE k i) (fun x _ => dcall_of (f221 n i x) (by first | (rw [atC, hk]; rfl) | (rw [atC, hk, h2]; rfl)))) rfl ?_
            simp only [go_sem, xQ, ↓reduceIte, xA, xM, xL, xT, xE, xN, xP, xR, xS]
            refine callB_use (f135 _ (by simpa using hl2)) rfl ?_
            simp only [go_sem, xQ, ↓reduceIte, xA, xM, xL, xT, xE, xN, xP, xR, xS]
            refine callB_use (f135 [_, _] (by simp)) rfl ?_
            simp only [go_sem, xQ, ↓reduceIte, xA, xM, xL, xT, xE, xN, xP, xR, xS]
            exact retP_eq (by rw [hr, if_neg (by omega), formE]; simp only [h1, h2, hk, e32, e42, decide_true, decide_false, Bool.true_or, Bool.false_or, Bool.not_true, Bool.not_false, Bool.true_and, Bool.false_and, eq_self_iff_true])
          · simp only [go_sem, xQ, ↓reduceIte, xA, xM, xL, xT, xE, xN, xP, xR, xS, Tryz.f145, hk, hG, sortsT, h1, h2, e32, e42]
            refine dcallB_use (f144 _ _) rfl ?_
            simp only [go_sem, xQ, ↓reduceIte, xA, xM, xL, xT, xE, xN, xP, xR, xS, e32, e42]
            refine dcallB_use (f144 _ _) rfl ?_
            simp only [go_sem, xQ, ↓reduceIte, xA, xM, xL, xT, xE, xN, xP, xR, xS, e32, e42]
            refine callB_use (f144 _ _) rfl ?_
            simp only [go_sem, xQ, ↓reduceIte, xA, xM, xL, xT, xE, xN, xP, xR, xS, e32, e42]
            refine callB_use (f135 [_, _, _] (by simp)) rfl ?_
            simp only [go_sem, xQ, ↓reduceIte, xA, xM, xL, xT, xE, xN, xP, xR, xS]
            refine callB_use (f218 n.kids hl2 _ (fun k => earlierE k i) (fun x _ => dcall_of (f221 n i x) (by first | (rw [atC, hk]; rfl) | (rw [atC, hk, h2]; rfl)))) rfl ?_
            simp only [go_sem, xQ, ↓reduceIte, xA, xM, xL, xT, xE, xN, xP, xR, xS]
            refine callB_use (f135 _ (by simpa using hl2)) rfl ?_
            simp only [go_sem, xQ, ↓reduceIte, xA, xM, xL, xT, xE, xN, xP, xR, xS]
            refine callB_use (f135 [_, _] (by simp)) rfl ?_
            simp only [go_sem, xQ, ↓reduceIte, xA, xM, xL, xT, xE, xN, xP, xR, xS]
            exact retP_eq (by rw [hr, if_neg (by omega), formE]; simp only [h1, h2, hk, e32, e42, decide_true, decide_false, Bool.true_or, Bool.false_or, Bool.not_true, Bool.not_false, Bool.true_and, Bool.false_and, eq_self_iff_true])
      · have hG0 : Γ 0 = some sortsT := hG
        by_cases h1 : (0 : Int) < n.term.coeffs.length
        · simp only [go_sem, xQ, ↓reduceIte, xA, xM, xL, xT, xE, xN, xP, xR, xS, Tryz.f145, hk, hG, sortsT, h1, e32, e42]
          refine dcallB_use (f144 _ _) rfl ?_
          simp only [go_sem, xQ, ↓reduceIte, xA, xM, xL, xT, xE, xN, xP, xR, xS, e32, e42]
          refine dcallB_use (f144 _ _) rfl ?_
          simp only [go_sem, xQ, ↓reduceIte, xA, xM, xL, xT, xE, xN, xP, xR, xS, e32, e42]
          refine callB_use (f144 _ _) rfl ?_
          simp only [go_sem, xQ, ↓reduceIte, xA, xM, xL, xT, xE, xN, xP, xR, xS, e32, e42]
          refine callB_use (f135 [_, _, _] (by simp)) rfl ?_
          simp only [go_sem, xQ, ↓reduceIte, xA, xM, xL, xT, xE, xN, xP, xR, xS]
          refine callB_use (f218 n.kids hl2 _ (fun k => earlierE k i) (fun x _ => dcall_of (f221 n i x) (by first | (rw [atC, hk]; rfl) | (rw [atC, hk, h2]; rfl)))) rfl ?_
          simp only [go_sem, xQ, ↓reduceIte, xA, xM, xL, xT, xE, xN, xP, xR, xS]
          refine callB_use (f135 _ (by simpa using hl2)) rfl ?_
          simp only [go_sem, xQ, ↓reduceIte, xA, xM, xL, xT, xE, xN, xP, xR, xS]
          refine callB_use (f135 [_, _] (by simp)) rfl ?_
          simp only [go_sem, xQ, ↓reduceIte, xA, xM, xL, xT, xE, xN, xP, xR, xS]
          exact retP_eq (by rw [hr, if_neg (by omega), formE]; simp only [h1, hk, e32, e42, decide_true, decide_false, Bool.true_or, Bool.false_or, Bool.not_true, Bool.not_false, Bool.true_and, Bool.false_and, eq_self_iff_true])
        · by_cases h2 : n.term.const = 0
          · simp only [go_sem, xQ, ↓reduceIte, xA, xM, xL, xT, xE, xN, xP, xR, xS, Tryz.f145, hk, hG, sortsT, h1, h2, e32, e42]
            refine dcallB_use (f144 _ _) rfl ?_
            simp only [go_sem, xQ, ↓reduceIte, xA, xM, xL, xT, xE, xN, xP, xR, xS, e32, e42]
            refine dcallB_use (f144 _ _) rfl ?_
            simp only [go_sem, xQ, ↓reduceIte, xA, xM, xL, xT, xE, xN, xP, xR, xS, e32, e42]
            refine callB_use (f144 _ _) rfl ?_
            simp only [go_sem, xQ, ↓reduceIte, xA, xM, xL, xT, xE, xN, xP, xR, xS, e32, e42]
            refine callB_use (f135 [_, _, _] (by simp)) rfl ?_
            simp only [go_sem, xQ, ↓reduceIte, xA, xM, xL, xT, xE, xN, xP, xR, xS]
            refine callB_use (f218 n.kids hl2 _ (fun k => earlierE k i) (fun x _ => dcall_of (f221 n i x) (by first | (rw [atC, hk]; rfl) | (rw [atC, hk, h2]; rfl)))) rfl ?_
            simp only [go_sem, xQ, ↓reduceIte, xA, xM, xL, xT, xE, xN, xP, xR, xS]
            refine callB_use (f135 _ (by simpa using hl2)) rfl ?_
            simp only [go_sem, xQ, ↓reduceIte, xA, xM, xL, xT, xE, xN, xP, xR, xS]
            refine callB_use (f135 [_, _] (by simp)) rfl ?_
            simp only [go_sem, xQ, ↓reduceIte, xA, xM, xL, xT, xE, xN, xP, xR, xS]
            exact retP_eq (by rw [hr, if_neg (by omega), formE]; simp only [h1, h2, hk, e32, e42, decide_true, decide_false, Bool.true_or, Bool.false_or, Bool.not_true, Bool.not_false, Bool.true_and, Bool.false_and, eq_self_iff_true])
          · simp only [go_sem, xQ, ↓reduceIte, xA, xM, xL, xT, xE, xN, xP, xR, xS, Tryz.f145, hk, hG, sortsT, h1, h2, e32, e42]
            refine dcallB_use (f144 _ _) rfl ?_
            simp only [go_sem, xQ, ↓reduceIte, xA, xM, xL, xT, xE, xN, xP, xR, xS, e32, e42]
            refine dcallB_use (f144 _ _) rfl ?_
            simp only [go_sem, xQ, ↓reduceIte, xA, xM, xL, xT, xE, xN, xP, xR, xS, e32, e42]
            refine callB_use (f144 _ _) rfl ?_
            simp only [go_sem, xQ, ↓reduceIte, xA, xM, xL, xT, xE, xN, xP, xR, xS, e32, e42]
            refine callB_use (f135 [_, _, _] (by simp)) rfl ?_
            simp only [go_sem, xQ, ↓reduceIte, xA, xM, xL, xT, xE, xN, xP, xR, xS]
            refine callB_use (f218 n.kids hl2 _ (fun k => earlierE k i) (fun x _ => dcall_of (f221 n i x) (by first | (rw [atC, hk]; rfl) | (rw [atC, hk, h2]; rfl)))) rfl ?_
            simp only [go_sem, xQ, ↓reduceIte, xA, xM, xL, xT, xE, xN, xP, xR, xS]
            refine callB_use (f135 _ (by simpa using hl2)) rfl ?_
            simp only [go_sem, xQ, ↓reduceIte, xA, xM, xL, xT, xE, xN, xP, xR, xS]
            refine callB_use (f135 [_, _] (by simp)) rfl ?_
            simp only [go_sem, xQ, ↓reduceIte, xA, xM, xL, xT, xE, xN, xP, xR, xS]
            exact retP_eq (by rw [hr, if_neg (by omega), formE]; simp only [h1, h2, hk, e32, e42, decide_true, decide_false, Bool.true_or, Bool.false_or, Bool.not_true, Bool.not_false, Bool.true_and, Bool.false_and, eq_self_iff_true])
end Go.AL

/- Check of formulas. -/
set_option linter.unusedVariables false
set_option linter.unusedSimpArgs false
namespace Go.AL
open Go.Proofs
variable {Γ : Glob}
attribute [local irreducible] codeW opsW dopsW
def nodesE (vars : Int) : Nat → List Nd → Int
  | _, [] => 0
  | k, n :: l => if nodeE n k vars = 0 then nodesE vars (k + 1) l else nodeE n k vars
def headE (f : Fm) : Int := firstE [withinE f.vars 0 8, whenE (decide ((f.nodes.length : Int) = 0)) 10, whenE (decide ((200 : Int) < (f.nodes.length : Int))) 5]
def checkE (f : Fm) : Int := if headE f = 0 then nodesE f.vars 0 f.nodes else headE f
def NdFit (n : Nd) : Prop := Fits n.term.coeffs.length ∧ Fits n.kids.length
theorem f47 (hG : Γ 0 = some sortsT) (f : Fm) (hl : Fits f.nodes.length) (hc : ∀ n ∈ f.nodes, NdFit n) : PCalls Tryz.prog Γ 47 [fmA f] (int (checkE f)) := by
  refine pcalls (ok47 Γ) fun σ => ?_
  simp only [go_sem, xQ, ↓reduceIte, xA, xM, xL, xT, xE, xN, xP, xR, xS, Tryz.f47]
  intro b2 hb2
  simp only [go_sem, xQ, ↓reduceIte, xA, xM, xL, xT, xE, xN, xP, xR, xS]
  refine dcallB_use (f143 _ _ _) rfl ?_
  simp only [go_sem, xQ, ↓reduceIte, xA, xM, xL, xT, xE, xN, xP, xR, xS]
  refine dcallB_use (f144 _ _) rfl ?_
  simp only [go_sem, xQ, ↓reduceIte, xA, xM, xL, xT, xE, xN, xP, xR, xS]
  refine callB_use (f144 _ _) rfl ?_
  simp only [go_sem, xQ, ↓reduceIte, xA, xM, xL, xT, xE, xN, xP, xR, xS]
  refine callB_use (f135 [_, _, _] (by simp)) rfl ?_
  by_cases h : headE f = 0
  · have hr : checkE f = nodesE f.vars 0 f.nodes := by rw [checkE, if_pos h]
    have h' := h
    unfold headE at h'
    simp only [go_sem, xQ, ↓reduceIte, xA, xM, xL, xT, xE, xN, xP, xR, xS, h']
    refine callB_use (f137 f) rfl ?_
    simp only [go_sem, xQ, ↓reduceIte, xA, xM, xL, xT, xE, xN, xP, xR, xS]
    refine SemC.rangeL (xs := nodesX f.nodes) (D := noD) (pre := fun _ => True) (f := 220) (first := []) (captured := [.pp (fmC f) 0]) mixed (by simp only [go_sem, xQ, ↓reduceIte, xA, xM, xL, xT, xE, xN, xP, xR, xS]) (f220 f hl) (by decide) (by kernel_rfl) (by kernel_rfl) noD_ctl (fun _ _ _ _ _ _ => trivial)
      (fun k σ' => σ' b2 = some (.row [int 0] 1 1) ∧ Drop σ' σ ∧ checkE f = nodesE f.vars k (f.nodes.drop k))
      (fun e σ' => e = .ret ∧ σ' b2 = some (.row [int (checkE f)] 1 1) ∧ Drop σ' σ)
      (fun k x ρ1 σ1 => ∃ n b4, f.nodes[k]? = some n ∧ ρ1 1 = .pp (fmC f) 0 ∧ ρ1 2 = .v (.pointer (some ⟨b2, 0, none⟩)) ∧ ρ1 4 = .v (.pointer (some ⟨b4, 0, none⟩)) ∧ σ1 b4 = some (.row (atC n k) 5 1) ∧ σ1 b2 = some (.row [int 0] 1 1) ∧ Drop σ1 σ ∧ checkE f = nodesE f.vars k (f.nodes.drop k))
      (fun k => (Closed.row (fun h => h)).and ((Closed.drop ?_ (fun _ _ _ h => h)).and (Closed.const _)))
      (fun e => (Closed.const _).and ((Closed.row (fun h => h)).and (Closed.drop ?_ (fun _ _ _ h => h))))
      (fun k x ρ1 => Closed.ex fun n => Closed.ex fun b4 => (Closed.const _).and ((Closed.const _).and ((Closed.const _).and ((Closed.const _).and ((Closed.row (fun h => h)).and ((Closed.row (fun h => h)).and ((Closed.drop ?_ (fun _ _ _ h => h)).and (Closed.const _))))))))
      ?_ ?_ ?_ ?_ ?_
    · exact (Drop.refl σ).upd hb2
    · exact (Drop.refl σ).upd hb2
    · exact (Drop.refl σ).upd hb2
    · exact ⟨by simp only [go_sem, xQ, ↓reduceIte, xA, xM, xL, xT, xE, xN, xP, xR, xS], (Drop.refl σ).upd hb2, by rw [hr]; rfl⟩
    · rintro k x E σ' l hE hx ⟨hs2, hD, hz⟩
      obtain ⟨n, hn, rfl⟩ := nodesX_get hx
      have e1 : E 1 = .pp (fmC f) 0 := by rw [hE 1 (by decide)]; simp only [go_sem, xQ, ↓reduceIte, xA, xM, xL, xT, xE, xN, xP, xR, xS]
      have e2 : E 2 = .v (.pointer (some ⟨b2, 0, none⟩)) := by rw [hE 2 (by decide)]; simp only [go_sem, xQ, ↓reduceIte, xA, xM, xL, xT, xE, xN, xP, xR, xS]
      simp only [go_sem, xQ, ↓reduceIte, xA, xM, xL, xT, xE, xN, xP, xR, xS, e1, e2]
      intro b4 hb4
      have n4 : ¬ b2 = b4 := nn hb4 hs2
      simp only [go_sem, xQ, ↓reduceIte, xA, xM, xL, xT, xE, xN, xP, xR, xS, e1, e2, n4]
      refine ⟨(Keep.refl _ _).upd (keep_none hb4), n, b4, ?_⟩
      simp only [go_sem, xQ, ↓reduceIte, xA, xM, xL, xT, xE, xN, xP, xR, xS, e1, e2, n4, hn, hs2]
      exact ⟨by repeat (first | assumption | refine Drop.upd ?_ (hD.free hb4)), hz⟩
    · rintro k x ρ1 σ' l hx ⟨n, b4, hn, h1, h2, h4, hs4, hs2, hD, hz⟩
      have n4 : ¬ b2 = b4 := rn hs2 hs4 (by decide)
      simp only [go_sem, xQ, ↓reduceIte, xA, xM, xL, xT, xE, xN, xP, xR, xS, h1, h2, h4, hs4, hs2, n4]
      refine callB_use (f145 hG n k f.vars (hc n (mem_of_get hn)).1 (hc n (mem_of_get hn)).2) rfl ?_
      rw [drop_of_get hn, nodesE] at hz
      by_cases hE : nodeE n k f.vars = 0
      · rw [if_pos hE] at hz
        simp only [go_sem, xQ, ↓reduceIte, xA, xM, xL, xT, xE, xN, xP, xR, xS, h1, h2, h4, hs4, hs2, n4, hE]
        exact ⟨Keep.refl _ _, hD, hz⟩
      · rw [if_neg hE] at hz
        simp only [go_sem, xQ, ↓reduceIte, xA, xM, xL, xT, xE, xN, xP, xR, xS, h1, h2, h4, hs4, hs2, n4, hE]
        exact ⟨(Keep.refl _ _).upd (keep_row hs2 (fun h => h)), by rw [hz], hD.upd hb2⟩
    · rintro σ' r hr' ⟨hs2, hD, hz⟩ hd
      have n1 : ¬ b2 = r := dn hd hs2
      have n2 : ¬ r = b2 := fun e => n1 e.symm
      simp only [go_sem, xQ, ↓reduceIte, xA, xM, xL, xT, xE, xN, xP, xR, xS, hs2, hd, n1, n2]
      have hlen : (nodesX f.nodes).length = f.nodes.length := by rw [nodesX, List.length_mapIdx]
      rw [hlen, List.drop_length, nodesE] at hz
      exact retP_drop ((hD.upd hb2).ersX (un hr').2) (by rw [hz])
    · rintro e σ' r hr' ⟨rfl, hs2, hD⟩ hd
      have n1 : ¬ b2 = r := dn hd hs2
      have n2 : ¬ r = b2 := fun e => n1 e.symm
      simp only [go_sem, xQ, ↓reduceIte, xA, xM, xL, xT, xE, xN, xP, xR, xS, hs2, hd, n1, n2]
      exact retP_drop (hD.ersX (un hr').2) rfl
  · have h' := h
    unfold headE at h'
    simp only [go_sem, xQ, ↓reduceIte, xA, xM, xL, xT, xE, xN, xP, xR, xS, h']
    exact retP_drop (by repeat (first | exact Drop.refl _ | assumption | refine Drop.upd ?_ (by assumption))) (by rw [checkE, if_neg h, headE])
end Go.AL
