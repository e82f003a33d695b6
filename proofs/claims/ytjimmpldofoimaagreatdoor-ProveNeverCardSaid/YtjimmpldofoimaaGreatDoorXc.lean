import Derived.Test.YtjimmpldofoimaaGreatDoorAlBase
import Derived.Test.YtjimmpldofoimaaGreatDoorAlEq
import Derived.Test.YtjimmpldofoimaaGreatDoorAlSeq
import Derived.Test.YtjimmpldofoimaaGreatDoorAm
import Derived.Test.YtjimmpldofoimaaGreatDoorV1
import Derived.Test.YtjimmpldofoimaaGreatDoorWb
import Derived.Test.YtjimmpldofoimaaGreatDoorWd
open Go.AL renaming retPost_one → xP, retPost_oneN → xR, ers_at' → xS
set_option linter.unusedVariables false
set_option linter.unusedSimpArgs false
namespace Go.AL
open Go.Proofs
variable {Γ : Glob}
attribute [local irreducible] codeW opsW dopsW
structure Nd where
 kind : Int
 term : Tm
 kids : List Int
 deriving DecidableEq, Inhabited
def ndC (n : Nd) : List AV := [int n.kind, slI n.term.coeffs, int n.term.const, slI n.kids]
def ndA (n : Nd) : AV := .agg (ndC n)
def slN (l : List Nd) : AV := .sl (l.flatMap ndC) l.length
structure Fm where
 vars : Int
 nodes : List Nd
 deriving DecidableEq, Inhabited
def fmC (f : Fm) : List AV := [int f.vars, slN f.nodes]
def fmA (f : Fm) : AV := .agg (fmC f)
def atC (n : Nd) (i : Int) : List AV := [int n.kind, slI n.term.coeffs, int n.term.const, slI n.kids, int i]
def atA (n : Nd) (i : Int) : AV := .agg (atC n i)
attribute [go_sem] ndC ndA slN fmC fmA atC atA
theorem ndC_len (n : Nd) : (ndC n).length = 4 := rfl
theorem nd_part {l : List Nd} {k : Nat} {t : Nd} (h : l[k]? = some t) (z : List AV) : TK.part ⟨true, 4, z⟩ (l.flatMap ndC) (k * 4) = some (ndA t) := part_rows (k := ⟨true, 4, z⟩) rfl ndC_len h
theorem nd_get {l : List Nd} {k : Nat} {t : Nd} (h : l[k]? = some t) (j : Nat) (hj : j < 4) : (l.flatMap ndC)[k * 4 + j]? = (ndC t)[j]? := rows_get ndC_len h hj
theorem nd_get0 {l : List Nd} {k : Nat} {t : Nd} (h : l[k]? = some t) : (l.flatMap ndC)[k * 4]? = some (int t.kind) := rows_get0 ndC_len h (by decide)
theorem pcallsAt {P : Program} {Γ : Glob} {mz : List Nat} {fl : List (Nat × List Bool)} {bf : List (Nat × List Nat)} {f : FuncId} {N : Nat} {c : Code} {rs : List ResultVar} {args : List AV} {r : AV} {σ : Sig} (hf : FnOk (parG P Γ mz fl bf) f N c rs args.length)
  (h : codeW (parG P Γ mz fl bf) none N c (RetPost P rs (retP σ r)) (envOf args) σ []) : ACalls P Γ f args σ fun r' σ' => r' = r ∧ σ' = σ := by
 have := acalls_of_sem hf (codeW_sound hf.mixed _ _ _ _ _ hf.ok h)
 refine ⟨this.1, fun w vs hr hv => ?_⟩
 have h2 := this.2 w vs hr hv
 refine ⟨h2.1, fun cs hroom => ?_⟩
 obtain ⟨e, w', fr, ⟨v, x, σ', g1, g2, g3, g4, hfz, hd⟩, hc⟩ := h2.2 cs hroom
 exact ⟨e, w', fr, ⟨v, r, σ, g1, hfz.rep g3 hd g2, g3.drop hd, g4.trans (hd.ext _), rfl, rfl⟩, hc⟩
theorem callB_mono {P : Program} {Γ : Glob} {fv : AV} {args : List AV} {σ : Sig} {K K' : AV → Sig → Prop} (hk : ∀ r σ', K r σ' → K' r σ') (h : callB P Γ fv args σ K) : callB P Γ fv args σ K' := callOp_mono hk h
def bGe : ByteArray := ⟨#[103, 101]⟩
def bEq : ByteArray := ⟨#[101, 113]⟩
def bNot : ByteArray := ⟨#[110, 111, 116]⟩
def bAnd : ByteArray := ⟨#[97, 110, 100]⟩
def bOr : ByteArray := ⟨#[111, 114]⟩
def strV (s : ByteArray) : AV := .v (.string s)
def boolV (b : Bool) : AV := .v (.bool b)
def sortsT : List AV := [strV bGe, boolV true, .v .nilFunc, strV bEq, boolV true, .v .nilFunc, strV bNot, boolV false, .fn (.func 317) [] [], strV bAnd, boolV false, .fn (.func 318) [] [], strV bOr, boolV false, .fn (.func 320) [] []]
attribute [go_sem] strV boolV
theorem f137 (f : Fm) : PCalls Tryz.prog Γ 137 [fmA f] (.fn (.func 220) [] [.pp (fmC f) 0]) := by
 refine pcalls (ok137 Γ) fun σ => ?_
 simp only [go_sem, xP, xR, xS, Tryz.f137]
def nodesX (l : List Nd) : List AV := l.mapIdx fun i n => atA n (i : Int)
theorem nodesX_get {l : List Nd} {k : Nat} {x : AV} (h : (nodesX l)[k]? = some x) : ∃ n, l[k]? = some n ∧ x = atA n k := by
 rw [nodesX, List.getElem?_mapIdx] at h
 cases hn : l[k]? with
 | none => rw [hn] at h; cases h
 | some n => rw [hn] at h; exact ⟨n, rfl, (Option.some.inj h).symm⟩
theorem f220 (f : Fm) (hl : Fits f.nodes.length) : Iter Tryz.prog Γ noD 220 [] [.pp (fmC f) 0] (fun _ => True) (nodesX f.nodes) := by
 intro yv σ0 I K _ hI hKs h0 hy hK
 refine acalls (ok220 Γ) ?_
 simp only [List.nil_append, List.cons_append]
 simp only [go_sem, xP, xR, xS, Tryz.f220]
 refine SemC.loopK mixed f.nodes.length (fun k ρ σ' ds => ds = [] ∧ ρ 0 = yv ∧ ρ 1 = .pp (fmC f) 0 ∧ ρ 6 = slN f.nodes ∧ ρ 7 = int f.nodes.length ∧ ρ 8 = int k ∧ I k σ') (by kernel_rfl) ⟨rfl, rfl, rfl, rfl, rfl, rfl, h0⟩ ?_
 rintro k ρ σ' ds hk ⟨rfl, h0', h1, h6, h7, h8, hIk⟩
 rcases get_or_end f.nodes k hk with ⟨n, hn, hlt, hd⟩ | hk
 ·simp only [go_sem, xP, xR, xS, h0', h1, h6, h7, h8, hlt, ↓nd_part hn]
  intro b hb
  have hx : (nodesX f.nodes)[k]? = some (atA n k) := by rw [nodesX, List.getElem?_mapIdx, hn]; rfl
  simp only [go_sem, xP, xR, xS, h0', h1, h6, h7, h8, hlt, ↓nd_part hn]
  refine callB_mono (fun r σ2 h => ?_) (hy k (atA n k) _ hx (hI k _ b _ (.inl hb) hIk))
  rcases h with ⟨_, ⟨rfl, h⟩ | ⟨rfl, h⟩⟩
  ·simp only [go_sem, xP, xR, xS, h0', h1, h6, h7, h8]
   exact ⟨hlt, by rw [wrap_succ _ (by omega)], h⟩
  ·simp only [go_sem, xP, xR, xS, h0', h1, h6, h7, h8]
   exact h
 ·subst hk
  simp only [go_sem, xP, xR, xS, h0', h1, h6, h7, h8, Nat.lt_irrefl]
  exact hK _ (by rw [nodesX, List.length_mapIdx]; exact hIk)
theorem f221 (n : Nd) (i k : Int) : PCalls Tryz.prog Γ 221 [int k, .pp (atC n i) 0] (int (earlierE k i)) := by
 refine pcalls (ok221 Γ) fun σ => ?_
 by_cases h : k < 0
 ·simp only [go_sem, xP, xR, xS, Tryz.f221, h]
  refine callB_use (f144 _ _) rfl ?_
  simp only [go_sem, xP, xR, xS]
  exact retP_eq (by simp [earlierE, h])
 ·simp only [go_sem, xP, xR, xS, Tryz.f221, h]
  refine callB_use (f144 _ _) rfl ?_
  simp only [go_sem, xP, xR, xS]
  exact retP_eq (by simp [earlierE, h])
def formE (n : Nd) : Int := firstE [whenE (decide ((0 : Int) < n.term.coeffs.length) || !decide (n.term.const = 0)) 1, whenE (decide ((200 : Int) < n.kids.length)) 5, whenE (decide (n.kind = 2) && !decide ((n.kids.length : Int) = 1)) 2]
def nodeE (n : Nd) (i vars : Int) : Int :=
 if n.kind < 0 ∨ 4 < n.kind then 11
 else if n.kind ≤ 1 then firstE [checkTermE n.term vars, whenE (decide ((0 : Int) < n.kids.length)) 2]
 else firstE [formE n, firstE (n.kids.map fun k => earlierE k i)]
theorem kind5 {n : Int} (h : ¬ (n < 0 ∨ 4 < n)) : n = 0 ∨ n = 1 ∨ n = 2 ∨ n = 3 ∨ n = 4 := by omega
theorem f145 (hG : Γ 0 = some sortsT) (n : Nd) (i vars : Int) (hl : Fits n.term.coeffs.length) (hl2 : Fits n.kids.length) : PCalls Tryz.prog Γ 145 [atA n i, int vars] (int (nodeE n i vars)) := by
 have e32 : ((3 : Int) = 2) = False := eq_false (by decide)
 have e42 : ((4 : Int) = 2) = False := eq_false (by decide)
 refine pcalls (ok145 Γ) fun σ => ?_
 by_cases h0 : n.kind < 0
 ·simp only [go_sem, xP, xR, xS, Tryz.f145, h0]
  exact retP_eq (by rw [nodeE, if_pos (.inl h0)])
 ·by_cases h4 : (4 : Int) < n.kind
  ·simp only [go_sem, xP, xR, xS, Tryz.f145, h0, h4]
   exact retP_eq (by rw [nodeE, if_pos (.inr h4)])
  ·have hr : nodeE n i vars = if n.kind ≤ 1 then firstE [checkTermE n.term vars, whenE (decide ((0 : Int) < n.kids.length)) 2] else firstE [formE n, firstE (n.kids.map fun k => earlierE k i)] := by
    rw [nodeE, if_neg (by omega)]
   rcases kind5 (n := n.kind) (by omega) with hk | hk | hk | hk | hk
   ·simp only [go_sem, xP, xR, xS, Tryz.f145, hk, hG, sortsT]
    refine dcallB_use (f80 n.term vars hl) rfl ?_
    simp only [go_sem, xP, xR, xS]
    refine callB_use (f144 _ _) rfl ?_
    simp only [go_sem, xP, xR, xS]
    refine callB_use (f135 [_, _] (by simp)) rfl ?_
    simp only [go_sem, xP, xR, xS]
    exact retP_eq (by rw [hr, if_pos (by omega)])
   ·simp only [go_sem, xP, xR, xS, Tryz.f145, hk, hG, sortsT]
    refine dcallB_use (f80 n.term vars hl) rfl ?_
    simp only [go_sem, xP, xR, xS]
    refine callB_use (f144 _ _) rfl ?_
    simp only [go_sem, xP, xR, xS]
    refine callB_use (f135 [_, _] (by simp)) rfl ?_
    simp only [go_sem, xP, xR, xS]
    exact retP_eq (by rw [hr, if_pos (by omega)])
   ·have hG0 : Γ 0 = some sortsT := hG
    by_cases h1 : (0 : Int) < n.term.coeffs.length
    ·simp only [go_sem, xP, xR, xS, Tryz.f145, hk, hG, sortsT, h1, e32, e42]
     refine dcallB_use (f144 _ _) rfl ?_
     simp only [go_sem, xP, xR, xS, e32, e42]
     refine dcallB_use (f144 _ _) rfl ?_
     simp only [go_sem, xP, xR, xS, e32, e42]
     refine callB_use (f144 _ _) rfl ?_
     simp only [go_sem, xP, xR, xS, e32, e42]
     refine callB_use (f135 [_, _, _] (by simp)) rfl ?_
     simp only [go_sem, xP, xR, xS]
     refine callB_use (f218 n.kids hl2 _ (fun k => earlierE k i) (fun x _ => dcall_of (f221 n i x) (by first | (rw [atC, hk]; rfl) | (rw [atC, hk, h2]; rfl)))) rfl ?_
     simp only [go_sem, xP, xR, xS]
     refine callB_use (f135 _ (by simpa using hl2)) rfl ?_
     simp only [go_sem, xP, xR, xS]
     refine callB_use (f135 [_, _] (by simp)) rfl ?_
     simp only [go_sem, xP, xR, xS]
     exact retP_eq (by rw [hr, if_neg (by omega), formE]; simp only [h1, hk, e32, e42, decide_true, decide_false, Bool.true_or, Bool.false_or, Bool.not_true, Bool.not_false, Bool.true_and, Bool.false_and, eq_self_iff_true])
    ·by_cases h2 : n.term.const = 0
     ·simp only [go_sem, xP, xR, xS, Tryz.f145, hk, hG, sortsT, h1, h2, e32, e42]
      refine dcallB_use (f144 _ _) rfl ?_
      simp only [go_sem, xP, xR, xS, e32, e42]
      refine dcallB_use (f144 _ _) rfl ?_
      simp only [go_sem, xP, xR, xS, e32, e42]
      refine callB_use (f144 _ _) rfl ?_
      simp only [go_sem, xP, xR, xS, e32, e42]
      refine callB_use (f135 [_, _, _] (by simp)) rfl ?_
      simp only [go_sem, xP, xR, xS]
      refine callB_use (f218 n.kids hl2 _ (fun k => earlierE k i) (fun x _ => dcall_of (f221 n i x) (by first | (rw [atC, hk]; rfl) | (rw [atC, hk, h2]; rfl)))) rfl ?_
      simp only [go_sem, xP, xR, xS]
      refine callB_use (f135 _ (by simpa using hl2)) rfl ?_
      simp only [go_sem, xP, xR, xS]
      refine callB_use (f135 [_, _] (by simp)) rfl ?_
      simp only [go_sem, xP, xR, xS]
      exact retP_eq (by rw [hr, if_neg (by omega), formE]; simp only [h1, h2, hk, e32, e42, decide_true, decide_false, Bool.true_or, Bool.false_or, Bool.not_true, Bool.not_false, Bool.true_and, Bool.false_and, eq_self_iff_true])
     ·simp only [go_sem, xP, xR, xS, Tryz.f145, hk, hG, sortsT, h1, h2, e32, e42]
      refine dcallB_use (f144 _ _) rfl ?_
      simp only [go_sem, xP, xR, xS, e32, e42]
      refine dcallB_use (f144 _ _) rfl ?_
      simp only [go_sem, xP, xR, xS, e32, e42]
      refine callB_use (f144 _ _) rfl ?_
      simp only [go_sem, xP, xR, xS, e32, e42]
      refine callB_use (f135 [_, _, _] (by simp)) rfl ?_
      simp only [go_sem, xP, xR, xS]
      refine callB_use (f218 n.kids hl2 _ (fun k => earlierE k i) (fun x _ => dcall_of (f221 n i x) (by first | (rw [atC, hk]; rfl) | (rw [atC, hk, h2]; rfl)))) rfl ?_
      simp only [go_sem, xP, xR, xS]
      refine callB_use (f135 _ (by simpa using hl2)) rfl ?_
      simp only [go_sem, xP, xR, xS]
      refine callB_use (f135 [_, _] (by simp)) rfl ?_
      simp only [go_sem, xP, xR, xS]
      exact retP_eq (by rw [hr, if_neg (by omega), formE]; simp only [h1, h2, hk, e32, e42, decide_true, decide_false, Bool.true_or, Bool.false_or, Bool.not_true, Bool.not_false, Bool.true_and, Bool.false_and, eq_self_iff_true])
   ·have hG0 : Γ 0 = some sortsT := hG
    by_cases h1 : (0 : Int) < n.term.coeffs.length
    ·simp only [go_sem, xP, xR, xS, Tryz.f145, hk, hG, sortsT, h1, e32, e42]
     refine dcallB_use (f144 _ _) rfl ?_
     simp only [go_sem, xP, xR, xS, e32, e42]
     refine dcallB_use (f144 _ _) rfl ?_
     simp only [go_sem, xP, xR, xS, e32, e42]
     refine callB_use (f144 _ _) rfl ?_
     simp only [go_sem, xP, xR, xS, e32, e42]
     refine callB_use (f135 [_, _, _] (by simp)) rfl ?_
     simp only [go_sem, xP, xR, xS]
     refine callB_use (f218 n.kids hl2 _ (fun k => earlierE k i) (fun x _ => dcall_of (f221 n i x) (by first | (rw [atC, hk]; rfl) | (rw [atC, hk, h2]; rfl)))) rfl ?_
     simp only [go_sem, xP, xR, xS]
     refine callB_use (f135 _ (by simpa using hl2)) rfl ?_
     simp only [go_sem, xP, xR, xS]
     refine callB_use (f135 [_, _] (by simp)) rfl ?_
     simp only [go_sem, xP, xR, xS]
     exact retP_eq (by rw [hr, if_neg (by omega), formE]; simp only [h1, hk, e32, e42, decide_true, decide_false, Bool.true_or, Bool.false_or, Bool.not_true, Bool.not_false, Bool.true_and, Bool.false_and, eq_self_iff_true])
    ·by_cases h2 : n.term.const = 0
     ·simp only [go_sem, xP, xR, xS, Tryz.f145, hk, hG, sortsT, h1, h2, e32, e42]
      refine dcallB_use (f144 _ _) rfl ?_
      simp only [go_sem, xP, xR, xS, e32, e42]
      refine dcallB_use (f144 _ _) rfl ?_
      simp only [go_sem, xP, xR, xS, e32, e42]
      refine callB_use (f144 _ _) rfl ?_
      simp only [go_sem, xP, xR, xS, e32, e42]
      refine callB_use (f135 [_, _, _] (by simp)) rfl ?_
      simp only [go_sem, xP, xR, xS]
      refine callB_use (f218 n.kids hl2 _ (fun k => earlierE k i) (fun x _ => dcall_of (f221 n i x) (by first | (rw [atC, hk]; rfl) | (rw [atC, hk, h2]; rfl)))) rfl ?_
      simp only [go_sem, xP, xR, xS]
      refine callB_use (f135 _ (by simpa using hl2)) rfl ?_
      simp only [go_sem, xP, xR, xS]
      refine callB_use (f135 [_, _] (by simp)) rfl ?_
      simp only [go_sem, xP, xR, xS]
      exact retP_eq (by rw [hr, if_neg (by omega), formE]; simp only [h1, h2, hk, e32, e42, decide_true, decide_false, Bool.true_or, Bool.false_or, Bool.not_true, Bool.not_false, Bool.true_and, Bool.false_and, eq_self_iff_true])
     ·simp only [go_sem, xP, xR, xS, Tryz.f145, hk, hG, sortsT, h1, h2, e32, e42]
      refine dcallB_use (f144 _ _) rfl ?_
      simp only [go_sem, xP, xR, xS, e32, e42]
      refine dcallB_use (f144 _ _) rfl ?_
      simp only [go_sem, xP, xR, xS, e32, e42]
      refine callB_use (f144 _ _) rfl ?_
      simp only [go_sem, xP, xR, xS, e32, e42]
      refine callB_use (f135 [_, _, _] (by simp)) rfl ?_
      simp only [go_sem, xP, xR, xS]
      refine callB_use (f218 n.kids hl2 _ (fun k => earlierE k i) (fun x _ => dcall_of (f221 n i x) (by first | (rw [atC, hk]; rfl) | (rw [atC, hk, h2]; rfl)))) rfl ?_
      simp only [go_sem, xP, xR, xS]
      refine callB_use (f135 _ (by simpa using hl2)) rfl ?_
      simp only [go_sem, xP, xR, xS]
      refine callB_use (f135 [_, _] (by simp)) rfl ?_
      simp only [go_sem, xP, xR, xS]
      exact retP_eq (by rw [hr, if_neg (by omega), formE]; simp only [h1, h2, hk, e32, e42, decide_true, decide_false, Bool.true_or, Bool.false_or, Bool.not_true, Bool.not_false, Bool.true_and, Bool.false_and, eq_self_iff_true])
   ·have hG0 : Γ 0 = some sortsT := hG
    by_cases h1 : (0 : Int) < n.term.coeffs.length
    ·simp only [go_sem, xP, xR, xS, Tryz.f145, hk, hG, sortsT, h1, e32, e42]
     refine dcallB_use (f144 _ _) rfl ?_
     simp only [go_sem, xP, xR, xS, e32, e42]
     refine dcallB_use (f144 _ _) rfl ?_
     simp only [go_sem, xP, xR, xS, e32, e42]
     refine callB_use (f144 _ _) rfl ?_
     simp only [go_sem, xP, xR, xS, e32, e42]
     refine callB_use (f135 [_, _, _] (by simp)) rfl ?_
     simp only [go_sem, xP, xR, xS]
     refine callB_use (f218 n.kids hl2 _ (fun k => earlierE k i) (fun x _ => dcall_of (f221 n i x) (by first | (rw [atC, hk]; rfl) | (rw [atC, hk, h2]; rfl)))) rfl ?_
     simp only [go_sem, xP, xR, xS]
     refine callB_use (f135 _ (by simpa using hl2)) rfl ?_
     simp only [go_sem, xP, xR, xS]
     refine callB_use (f135 [_, _] (by simp)) rfl ?_
     simp only [go_sem, xP, xR, xS]
     exact retP_eq (by rw [hr, if_neg (by omega), formE]; simp only [h1, hk, e32, e42, decide_true, decide_false, Bool.true_or, Bool.false_or, Bool.not_true, Bool.not_false, Bool.true_and, Bool.false_and, eq_self_iff_true])
    ·by_cases h2 : n.term.const = 0
     ·simp only [go_sem, xP, xR, xS, Tryz.f145, hk, hG, sortsT, h1, h2, e32, e42]
      refine dcallB_use (f144 _ _) rfl ?_
      simp only [go_sem, xP, xR, xS, e32, e42]
      refine dcallB_use (f144 _ _) rfl ?_
      simp only [go_sem, xP, xR, xS, e32, e42]
      refine callB_use (f144 _ _) rfl ?_
      simp only [go_sem, xP, xR, xS, e32, e42]
      refine callB_use (f135 [_, _, _] (by simp)) rfl ?_
      simp only [go_sem, xP, xR, xS]
      refine callB_use (f218 n.kids hl2 _ (fun k => earlierE k i) (fun x _ => dcall_of (f221 n i x) (by first | (rw [atC, hk]; rfl) | (rw [atC, hk, h2]; rfl)))) rfl ?_
      simp only [go_sem, xP, xR, xS]
      refine callB_use (f135 _ (by simpa using hl2)) rfl ?_
      simp only [go_sem, xP, xR, xS]
      refine callB_use (f135 [_, _] (by simp)) rfl ?_
      simp only [go_sem, xP, xR, xS]
      exact retP_eq (by rw [hr, if_neg (by omega), formE]; simp only [h1, h2, hk, e32, e42, decide_true, decide_false, Bool.true_or, Bool.false_or, Bool.not_true, Bool.not_false, Bool.true_and, Bool.false_and, eq_self_iff_true])
     ·simp only [go_sem, xP, xR, xS, Tryz.f145, hk, hG, sortsT, h1, h2, e32, e42]
      refine dcallB_use (f144 _ _) rfl ?_
      simp only [go_sem, xP, xR, xS, e32, e42]
      refine dcallB_use (f144 _ _) rfl ?_
      simp only [go_sem, xP, xR, xS, e32, e42]
      refine callB_use (f144 _ _) rfl ?_
      simp only [go_sem, xP, xR, xS, e32, e42]
      refine callB_use (f135 [_, _, _] (by simp)) rfl ?_
      simp only [go_sem, xP, xR, xS]
      refine callB_use (f218 n.kids hl2 _ (fun k => earlierE k i) (fun x _ => dcall_of (f221 n i x) (by first | (rw [atC, hk]; rfl) | (rw [atC, hk, h2]; rfl)))) rfl ?_
      simp only [go_sem, xP, xR, xS]
      refine callB_use (f135 _ (by simpa using hl2)) rfl ?_
      simp only [go_sem, xP, xR, xS]
      refine callB_use (f135 [_, _] (by simp)) rfl ?_
      simp only [go_sem, xP, xR, xS]
      exact retP_eq (by rw [hr, if_neg (by omega), formE]; simp only [h1, h2, hk, e32, e42, decide_true, decide_false, Bool.true_or, Bool.false_or, Bool.not_true, Bool.not_false, Bool.true_and, Bool.false_and, eq_self_iff_true])
def nodesE (vars : Int) : Nat → List Nd → Int
 | _, [] => 0
 | k, n :: l => if nodeE n k vars = 0 then nodesE vars (k + 1) l else nodeE n k vars
def headE (f : Fm) : Int := firstE [withinE f.vars 0 8, whenE (decide ((f.nodes.length : Int) = 0)) 10, whenE (decide ((200 : Int) < (f.nodes.length : Int))) 5]
def checkE (f : Fm) : Int := if headE f = 0 then nodesE f.vars 0 f.nodes else headE f
def NdFit (n : Nd) : Prop := Fits n.term.coeffs.length ∧ Fits n.kids.length
theorem f47 (hG : Γ 0 = some sortsT) (f : Fm) (hl : Fits f.nodes.length) (hc : ∀ n ∈ f.nodes, NdFit n) : PCalls Tryz.prog Γ 47 [fmA f] (int (checkE f)) := by
 refine pcalls (ok47 Γ) fun σ => ?_
 simp only [go_sem, xP, xR, xS, Tryz.f47]
 intro b2 hb2
 simp only [go_sem, xP, xR, xS]
 refine dcallB_use (f143 _ _ _) rfl ?_
 simp only [go_sem, xP, xR, xS]
 refine dcallB_use (f144 _ _) rfl ?_
 simp only [go_sem, xP, xR, xS]
 refine callB_use (f144 _ _) rfl ?_
 simp only [go_sem, xP, xR, xS]
 refine callB_use (f135 [_, _, _] (by simp)) rfl ?_
 by_cases h : headE f = 0
 ·have hr : checkE f = nodesE f.vars 0 f.nodes := by rw [checkE, if_pos h]
  have h' := h
  unfold headE at h'
  simp only [go_sem, xP, xR, xS, h']
  refine callB_use (f137 f) rfl ?_
  simp only [go_sem, xP, xR, xS]
  refine SemC.rangeL (xs := nodesX f.nodes) (D := noD) (pre := fun _ => True) (f := 220) (first := []) (captured := [.pp (fmC f) 0]) mixed (by simp only [go_sem, xP, xR, xS]) (f220 f hl) (by decide) (by kernel_rfl) (by kernel_rfl) noD_ctl (fun _ _ _ _ _ _ => trivial)
   (fun k σ' => σ' b2 = some (.row [int 0] 1 1) ∧ Drop σ' σ ∧ checkE f = nodesE f.vars k (f.nodes.drop k))
   (fun e σ' => e = .ret ∧ σ' b2 = some (.row [int (checkE f)] 1 1) ∧ Drop σ' σ)
   (fun k x ρ1 σ1 => ∃ n b4, f.nodes[k]? = some n ∧ ρ1 1 = .pp (fmC f) 0 ∧ ρ1 2 = .v (.pointer (some ⟨b2, 0, none⟩)) ∧ ρ1 4 = .v (.pointer (some ⟨b4, 0, none⟩)) ∧ σ1 b4 = some (.row (atC n k) 5 1) ∧ σ1 b2 = some (.row [int 0] 1 1) ∧ Drop σ1 σ ∧ checkE f = nodesE f.vars k (f.nodes.drop k))
   (fun k => (Closed.row (fun h => h)).and ((Closed.drop ?_ (fun _ _ _ h => h)).and (Closed.const _)))
   (fun e => (Closed.const _).and ((Closed.row (fun h => h)).and (Closed.drop ?_ (fun _ _ _ h => h))))
   (fun k x ρ1 => Closed.ex fun n => Closed.ex fun b4 => (Closed.const _).and ((Closed.const _).and ((Closed.const _).and ((Closed.const _).and ((Closed.row (fun h => h)).and ((Closed.row (fun h => h)).and ((Closed.drop ?_ (fun _ _ _ h => h)).and (Closed.const _))))))))
   ?_ ?_ ?_ ?_ ?_
  ·exact (Drop.refl σ).upd hb2
  ·exact (Drop.refl σ).upd hb2
  ·exact (Drop.refl σ).upd hb2
  ·exact ⟨by simp only [go_sem, xP, xR, xS], (Drop.refl σ).upd hb2, by rw [hr]; rfl⟩
  ·rintro k x E σ' l hE hx ⟨hs2, hD, hz⟩
   obtain ⟨n, hn, rfl⟩ := nodesX_get hx
   have e1 : E 1 = .pp (fmC f) 0 := by rw [hE 1 (by decide)]; simp only [go_sem, xP, xR, xS]
   have e2 : E 2 = .v (.pointer (some ⟨b2, 0, none⟩)) := by rw [hE 2 (by decide)]; simp only [go_sem, xP, xR, xS]
   simp only [go_sem, xP, xR, xS, e1, e2]
   intro b4 hb4
   have n4 : ¬ b2 = b4 := nn hb4 hs2
   simp only [go_sem, xP, xR, xS, e1, e2, n4]
   refine ⟨(Keep.refl _ _).upd (keep_none hb4), n, b4, ?_⟩
   simp only [go_sem, xP, xR, xS, e1, e2, n4, hn, hs2]
   exact ⟨by repeat (first | assumption | refine Drop.upd ?_ (hD.free hb4)), hz⟩
  ·rintro k x ρ1 σ' l hx ⟨n, b4, hn, h1, h2, h4, hs4, hs2, hD, hz⟩
   have n4 : ¬ b2 = b4 := rn hs2 hs4 (by decide)
   simp only [go_sem, xP, xR, xS, h1, h2, h4, hs4, hs2, n4]
   refine callB_use (f145 hG n k f.vars (hc n (mem_of_get hn)).1 (hc n (mem_of_get hn)).2) rfl ?_
   rw [drop_of_get hn, nodesE] at hz
   by_cases hE : nodeE n k f.vars = 0
   ·rw [if_pos hE] at hz
    simp only [go_sem, xP, xR, xS, h1, h2, h4, hs4, hs2, n4, hE]
    exact ⟨Keep.refl _ _, hD, hz⟩
   ·rw [if_neg hE] at hz
    simp only [go_sem, xP, xR, xS, h1, h2, h4, hs4, hs2, n4, hE]
    exact ⟨(Keep.refl _ _).upd (keep_row hs2 (fun h => h)), by rw [hz], hD.upd hb2⟩
  ·rintro σ' r hr' ⟨hs2, hD, hz⟩ hd
   have n1 : ¬ b2 = r := dn hd hs2
   have n2 : ¬ r = b2 := fun e => n1 e.symm
   simp only [go_sem, xP, xR, xS, hs2, hd, n1, n2]
   have hlen : (nodesX f.nodes).length = f.nodes.length := by rw [nodesX, List.length_mapIdx]
   rw [hlen, List.drop_length, nodesE] at hz
   exact retP_drop ((hD.upd hb2).ersX (un hr').2) (by rw [hz])
  ·rintro e σ' r hr' ⟨rfl, hs2, hD⟩ hd
   have n1 : ¬ b2 = r := dn hd hs2
   have n2 : ¬ r = b2 := fun e => n1 e.symm
   simp only [go_sem, xP, xR, xS, hs2, hd, n1, n2]
   exact retP_drop (hD.ersX (un hr').2) rfl
 ·have h' := h
  unfold headE at h'
  simp only [go_sem, xP, xR, xS, h']
  exact retP_drop (by repeat (first | exact Drop.refl _ | assumption | refine Drop.upd ?_ (by assumption))) (by rw [checkE, if_neg h, headE])
def kidsE (i : Int) (l : List Int) : Int := firstE (l.map fun k => earlierE k i)
theorem kidsE_cons (i k : Int) (l : List Int) : kidsE i (k :: l) = if k < 0 ∨ i ≤ k then 9 else kidsE i l := by
 rw [kidsE, List.map_cons, firstE_cons, earlierE]
 by_cases h : k < 0
 ·simp [h, whenE]
 ·by_cases h2 : i ≤ k
  ·simp [h, h2, whenE]
  ·simp [h, h2, whenE, kidsE]
theorem firstE_two (a b : Int) : firstE [a, b] = if a = 0 then b else a := by
 rw [firstE_cons]
 split
 ·rw [firstE_cons]
  split
  ·rename_i h; rw [h]; rfl
  ·rfl
 ·rfl
set_option maxHeartbeats 1000000 in
theorem f141 (f : Fm) (i : Nat) (n : Nd) (hn : f.nodes[i]? = some n) (hl : Fits n.term.coeffs.length) (hl2 : Fits n.kids.length) : PCalls Tryz.prog Γ 141 [fmA f, int i] (int (nodeE n i f.vars)) := by
 have hlt : i < f.nodes.length := lt_of_getElem? hn
 have e22 : ((2 : Int) = 2) = True := eq_true rfl
 have e32 : ((3 : Int) = 2) = False := eq_false (by decide)
 have e42 : ((4 : Int) = 2) = False := eq_false (by decide)
 refine pcalls (ok141 Γ) fun σ => ?_
 by_cases h0 : n.kind < 0
 ·simp only [go_sem, xP, xR, xS, Tryz.f141, hn, hlt, h0, ↓nd_part hn]
  intro b5 hb5
  simp only [go_sem, xP, xR, xS, h0]
  exact retP_drop (by repeat (first | exact Drop.refl _ | assumption | refine Drop.upd ?_ (by assumption))) (by rw [nodeE, if_pos (.inl h0)])
 ·by_cases h4 : (4 : Int) < n.kind
  ·simp only [go_sem, xP, xR, xS, Tryz.f141, hn, hlt, h0, h4, ↓nd_part hn]
   intro b5 hb5
   simp only [go_sem, xP, xR, xS, h0, h4]
   exact retP_drop (by repeat (first | exact Drop.refl _ | assumption | refine Drop.upd ?_ (by assumption))) (by rw [nodeE, if_pos (.inr h4)])
  ·have hr : nodeE n i f.vars = if n.kind ≤ 1 then firstE [checkTermE n.term f.vars, whenE (decide ((0 : Int) < n.kids.length)) 2] else firstE [formE n, kidsE i n.kids] := by
    rw [nodeE, if_neg (by omega)]; rfl
   by_cases h01 : n.kind ≤ 1
   ·simp only [go_sem, xP, xR, xS, Tryz.f141, hn, hlt, ↓nd_part hn, h0, h4, h01]
    intro b5 hb5
    simp only [go_sem, xP, xR, xS, h0, h4, h01]
    refine dcallB_use (f76 n.term f.vars hl) rfl ?_
    simp only [go_sem, xP, xR, xS]
    refine callB_use (f67 _ _) rfl ?_
    simp only [go_sem, xP, xR, xS]
    refine callB_use (f33 [_, _] (by simp)) rfl ?_
    simp only [go_sem, xP, xR, xS]
    exact retP_drop (by repeat (first | exact Drop.refl _ | assumption | refine Drop.upd ?_ (by assumption))) (by rw [hr, if_pos (by omega), checkTerm_eq])
   ·have h3 : n.kind = 2 ∨ n.kind = 3 ∨ n.kind = 4 := by omega
    rcases h3 with hk | hk | hk
    ·have h01' : ¬ (2 : Int) ≤ 1 := by omega
     by_cases h1 : (0 : Int) < n.term.coeffs.length
     ·simp only [go_sem, xP, xR, xS, Tryz.f141, hn, hlt, ↓nd_part hn, h0, h4, hk, h01', e22, e32, e42]
      intro b5 hb5
      simp only [go_sem, xP, xR, xS, hn, hlt, ↓nd_part hn, h0, h4, hk, h01', e22, e32, e42, h1]
      refine dcallB_use (f67 _ _) rfl ?_
      simp only [go_sem, xP, xR, xS, e32, e42, e22, hk]
      refine dcallB_use (f67 _ _) rfl ?_
      simp only [go_sem, xP, xR, xS, e32, e42, e22, hk]
      refine callB_use (f67 _ _) rfl ?_
      simp only [go_sem, xP, xR, xS, e32, e42, e22, hk]
      refine callB_use (f33 [_, _, _] (by simp)) rfl ?_
      generalize hg : firstE [whenE _ 1, whenE _ 5, whenE _ 2] = e
      have hF : formE n = e := by
       rw [← hg, formE]
       simp only [h1, hk, e32, e42, e22, decide_true, decide_false, Bool.true_or, Bool.false_or, Bool.not_true, Bool.not_false, Bool.true_and, Bool.false_and, eq_self_iff_true]
      rw [if_neg (by omega), hF, firstE_two] at hr
      by_cases he : e = 0
      ·rw [if_pos he] at hr
       simp only [go_sem, xP, xR, xS, he, h1, hk]
       refine SemC.loopK mixed n.kids.length (fun k ρ σ' ds => (ds = [] ∧ ρ 1 = int i ∧ ρ 5 = .v (.pointer (some ⟨b5, 0, none⟩)) ∧ ρ 7 = int k ∧ σ' b5 = some (.row [int 2, slI n.term.coeffs, int n.term.const, slI n.kids] 4 1)) ∧ Drop σ' σ ∧ kidsE i n.kids = kidsE i (n.kids.drop k)) (by kernel_rfl)
        ⟨by simp only [go_sem, xP, xR, xS, h1], by repeat (first | exact Drop.refl _ | assumption | refine Drop.upd ?_ (by assumption)), rfl⟩ ?_
       rintro k ρ σ' ds hkl ⟨⟨rfl, h1', h5, h7, hs5⟩, hD, hz⟩
       rcases get_or_end n.kids k hkl with ⟨x, hx, hltk, hd⟩ | hkl
       ·rw [hd, kidsE_cons] at hz
        by_cases hx0 : x < 0
        ·simp only [go_sem, xP, xR, xS, h1', h5, h7, hs5, hx, hltk, hx0]
         exact retP_drop hD (by rw [hr, hz, if_pos (.inl hx0)])
        ·by_cases hxi : (i : Int) ≤ x
         ·simp only [go_sem, xP, xR, xS, h1', h5, h7, hs5, hx, hltk, hx0, hxi]
          exact retP_drop hD (by rw [hr, hz, if_pos (.inr hxi)])
         ·rw [if_neg (by omega)] at hz
          simp only [go_sem, xP, xR, xS, h1', h5, h7, hs5, hx, hltk, hx0, hxi]
          exact ⟨by rw [wrap_succ _ (by omega)], hD, hz⟩
       ·subst hkl
        rw [List.drop_length] at hz
        simp only [go_sem, xP, xR, xS, h1', h5, h7, hs5, Nat.lt_irrefl]
        exact retP_drop hD (by rw [hr, hz]; rfl)
      ·rw [if_neg he] at hr
       simp only [go_sem, xP, xR, xS, he]
       exact retP_drop (by repeat (first | exact Drop.refl _ | assumption | refine Drop.upd ?_ (by assumption))) (by rw [hr])
     ·by_cases h2 : n.term.const = 0
      ·simp only [go_sem, xP, xR, xS, Tryz.f141, hn, hlt, ↓nd_part hn, h0, h4, hk, h01', e22, e32, e42]
       intro b5 hb5
       simp only [go_sem, xP, xR, xS, hn, hlt, ↓nd_part hn, h0, h4, hk, h01', e22, e32, e42, h1, h2]
       refine dcallB_use (f67 _ _) rfl ?_
       simp only [go_sem, xP, xR, xS, e32, e42, e22, hk]
       refine dcallB_use (f67 _ _) rfl ?_
       simp only [go_sem, xP, xR, xS, e32, e42, e22, hk]
       refine callB_use (f67 _ _) rfl ?_
       simp only [go_sem, xP, xR, xS, e32, e42, e22, hk]
       refine callB_use (f33 [_, _, _] (by simp)) rfl ?_
       generalize hg : firstE [whenE _ 1, whenE _ 5, whenE _ 2] = e
       have hF : formE n = e := by
        rw [← hg, formE]
        simp only [h1, h2, hk, e32, e42, e22, decide_true, decide_false, Bool.true_or, Bool.false_or, Bool.not_true, Bool.not_false, Bool.true_and, Bool.false_and, eq_self_iff_true]
       rw [if_neg (by omega), hF, firstE_two] at hr
       by_cases he : e = 0
       ·rw [if_pos he] at hr
        simp only [go_sem, xP, xR, xS, he, h1, h2, hk]
        refine SemC.loopK mixed n.kids.length (fun k ρ σ' ds => (ds = [] ∧ ρ 1 = int i ∧ ρ 5 = .v (.pointer (some ⟨b5, 0, none⟩)) ∧ ρ 7 = int k ∧ σ' b5 = some (.row [int 2, slI n.term.coeffs, int 0, slI n.kids] 4 1)) ∧ Drop σ' σ ∧ kidsE i n.kids = kidsE i (n.kids.drop k)) (by kernel_rfl)
         ⟨by simp only [go_sem, xP, xR, xS, h1, h2], by repeat (first | exact Drop.refl _ | assumption | refine Drop.upd ?_ (by assumption)), rfl⟩ ?_
        rintro k ρ σ' ds hkl ⟨⟨rfl, h1', h5, h7, hs5⟩, hD, hz⟩
        rcases get_or_end n.kids k hkl with ⟨x, hx, hltk, hd⟩ | hkl
        ·rw [hd, kidsE_cons] at hz
         by_cases hx0 : x < 0
         ·simp only [go_sem, xP, xR, xS, h1', h5, h7, hs5, hx, hltk, hx0]
          exact retP_drop hD (by rw [hr, hz, if_pos (.inl hx0)])
         ·by_cases hxi : (i : Int) ≤ x
          ·simp only [go_sem, xP, xR, xS, h1', h5, h7, hs5, hx, hltk, hx0, hxi]
           exact retP_drop hD (by rw [hr, hz, if_pos (.inr hxi)])
          ·rw [if_neg (by omega)] at hz
           simp only [go_sem, xP, xR, xS, h1', h5, h7, hs5, hx, hltk, hx0, hxi]
           exact ⟨by rw [wrap_succ _ (by omega)], hD, hz⟩
        ·subst hkl
         rw [List.drop_length] at hz
         simp only [go_sem, xP, xR, xS, h1', h5, h7, hs5, Nat.lt_irrefl]
         exact retP_drop hD (by rw [hr, hz]; rfl)
       ·rw [if_neg he] at hr
        simp only [go_sem, xP, xR, xS, he]
        exact retP_drop (by repeat (first | exact Drop.refl _ | assumption | refine Drop.upd ?_ (by assumption))) (by rw [hr])
      ·simp only [go_sem, xP, xR, xS, Tryz.f141, hn, hlt, ↓nd_part hn, h0, h4, hk, h01', e22, e32, e42]
       intro b5 hb5
       simp only [go_sem, xP, xR, xS, hn, hlt, ↓nd_part hn, h0, h4, hk, h01', e22, e32, e42, h1, h2]
       refine dcallB_use (f67 _ _) rfl ?_
       simp only [go_sem, xP, xR, xS, e32, e42, e22, hk]
       refine dcallB_use (f67 _ _) rfl ?_
       simp only [go_sem, xP, xR, xS, e32, e42, e22, hk]
       refine callB_use (f67 _ _) rfl ?_
       simp only [go_sem, xP, xR, xS, e32, e42, e22, hk]
       refine callB_use (f33 [_, _, _] (by simp)) rfl ?_
       generalize hg : firstE [whenE _ 1, whenE _ 5, whenE _ 2] = e
       have hF : formE n = e := by
        rw [← hg, formE]
        simp only [h1, h2, hk, e32, e42, e22, decide_true, decide_false, Bool.true_or, Bool.false_or, Bool.not_true, Bool.not_false, Bool.true_and, Bool.false_and, eq_self_iff_true]
       rw [if_neg (by omega), hF, firstE_two] at hr
       by_cases he : e = 0
       ·rw [if_pos he] at hr
        simp only [go_sem, xP, xR, xS, he, h1, h2, hk]
        refine SemC.loopK mixed n.kids.length (fun k ρ σ' ds => (ds = [] ∧ ρ 1 = int i ∧ ρ 5 = .v (.pointer (some ⟨b5, 0, none⟩)) ∧ ρ 7 = int k ∧ σ' b5 = some (.row [int 2, slI n.term.coeffs, int n.term.const, slI n.kids] 4 1)) ∧ Drop σ' σ ∧ kidsE i n.kids = kidsE i (n.kids.drop k)) (by kernel_rfl)
         ⟨by simp only [go_sem, xP, xR, xS, h1, h2], by repeat (first | exact Drop.refl _ | assumption | refine Drop.upd ?_ (by assumption)), rfl⟩ ?_
        rintro k ρ σ' ds hkl ⟨⟨rfl, h1', h5, h7, hs5⟩, hD, hz⟩
        rcases get_or_end n.kids k hkl with ⟨x, hx, hltk, hd⟩ | hkl
        ·rw [hd, kidsE_cons] at hz
         by_cases hx0 : x < 0
         ·simp only [go_sem, xP, xR, xS, h1', h5, h7, hs5, hx, hltk, hx0]
          exact retP_drop hD (by rw [hr, hz, if_pos (.inl hx0)])
         ·by_cases hxi : (i : Int) ≤ x
          ·simp only [go_sem, xP, xR, xS, h1', h5, h7, hs5, hx, hltk, hx0, hxi]
           exact retP_drop hD (by rw [hr, hz, if_pos (.inr hxi)])
          ·rw [if_neg (by omega)] at hz
           simp only [go_sem, xP, xR, xS, h1', h5, h7, hs5, hx, hltk, hx0, hxi]
           exact ⟨by rw [wrap_succ _ (by omega)], hD, hz⟩
        ·subst hkl
         rw [List.drop_length] at hz
         simp only [go_sem, xP, xR, xS, h1', h5, h7, hs5, Nat.lt_irrefl]
         exact retP_drop hD (by rw [hr, hz]; rfl)
       ·rw [if_neg he] at hr
        simp only [go_sem, xP, xR, xS, he]
        exact retP_drop (by repeat (first | exact Drop.refl _ | assumption | refine Drop.upd ?_ (by assumption))) (by rw [hr])
    ·have h01' : ¬ (3 : Int) ≤ 1 := by omega
     by_cases h1 : (0 : Int) < n.term.coeffs.length
     ·simp only [go_sem, xP, xR, xS, Tryz.f141, hn, hlt, ↓nd_part hn, h0, h4, hk, h01', e22, e32, e42]
      intro b5 hb5
      simp only [go_sem, xP, xR, xS, hn, hlt, ↓nd_part hn, h0, h4, hk, h01', e22, e32, e42, h1]
      refine dcallB_use (f67 _ _) rfl ?_
      simp only [go_sem, xP, xR, xS, e32, e42, e22, hk]
      refine dcallB_use (f67 _ _) rfl ?_
      simp only [go_sem, xP, xR, xS, e32, e42, e22, hk]
      refine callB_use (f67 _ _) rfl ?_
      simp only [go_sem, xP, xR, xS, e32, e42, e22, hk]
      refine callB_use (f33 [_, _, _] (by simp)) rfl ?_
      generalize hg : firstE [whenE _ 1, whenE _ 5, whenE _ 2] = e
      have hF : formE n = e := by
       rw [← hg, formE]
       simp only [h1, hk, e32, e42, e22, decide_true, decide_false, Bool.true_or, Bool.false_or, Bool.not_true, Bool.not_false, Bool.true_and, Bool.false_and, eq_self_iff_true]
      rw [if_neg (by omega), hF, firstE_two] at hr
      by_cases he : e = 0
      ·rw [if_pos he] at hr
       simp only [go_sem, xP, xR, xS, he, h1, hk]
       refine SemC.loopK mixed n.kids.length (fun k ρ σ' ds => (ds = [] ∧ ρ 1 = int i ∧ ρ 5 = .v (.pointer (some ⟨b5, 0, none⟩)) ∧ ρ 7 = int k ∧ σ' b5 = some (.row [int 3, slI n.term.coeffs, int n.term.const, slI n.kids] 4 1)) ∧ Drop σ' σ ∧ kidsE i n.kids = kidsE i (n.kids.drop k)) (by kernel_rfl)
        ⟨by simp only [go_sem, xP, xR, xS, h1], by repeat (first | exact Drop.refl _ | assumption | refine Drop.upd ?_ (by assumption)), rfl⟩ ?_
       rintro k ρ σ' ds hkl ⟨⟨rfl, h1', h5, h7, hs5⟩, hD, hz⟩
       rcases get_or_end n.kids k hkl with ⟨x, hx, hltk, hd⟩ | hkl
       ·rw [hd, kidsE_cons] at hz
        by_cases hx0 : x < 0
        ·simp only [go_sem, xP, xR, xS, h1', h5, h7, hs5, hx, hltk, hx0]
         exact retP_drop hD (by rw [hr, hz, if_pos (.inl hx0)])
        ·by_cases hxi : (i : Int) ≤ x
         ·simp only [go_sem, xP, xR, xS, h1', h5, h7, hs5, hx, hltk, hx0, hxi]
          exact retP_drop hD (by rw [hr, hz, if_pos (.inr hxi)])
         ·rw [if_neg (by omega)] at hz
          simp only [go_sem, xP, xR, xS, h1', h5, h7, hs5, hx, hltk, hx0, hxi]
          exact ⟨by rw [wrap_succ _ (by omega)], hD, hz⟩
       ·subst hkl
        rw [List.drop_length] at hz
        simp only [go_sem, xP, xR, xS, h1', h5, h7, hs5, Nat.lt_irrefl]
        exact retP_drop hD (by rw [hr, hz]; rfl)
      ·rw [if_neg he] at hr
       simp only [go_sem, xP, xR, xS, he]
       exact retP_drop (by repeat (first | exact Drop.refl _ | assumption | refine Drop.upd ?_ (by assumption))) (by rw [hr])
     ·by_cases h2 : n.term.const = 0
      ·simp only [go_sem, xP, xR, xS, Tryz.f141, hn, hlt, ↓nd_part hn, h0, h4, hk, h01', e22, e32, e42]
       intro b5 hb5
       simp only [go_sem, xP, xR, xS, hn, hlt, ↓nd_part hn, h0, h4, hk, h01', e22, e32, e42, h1, h2]
       refine dcallB_use (f67 _ _) rfl ?_
       simp only [go_sem, xP, xR, xS, e32, e42, e22, hk]
       refine dcallB_use (f67 _ _) rfl ?_
       simp only [go_sem, xP, xR, xS, e32, e42, e22, hk]
       refine callB_use (f67 _ _) rfl ?_
       simp only [go_sem, xP, xR, xS, e32, e42, e22, hk]
       refine callB_use (f33 [_, _, _] (by simp)) rfl ?_
       generalize hg : firstE [whenE _ 1, whenE _ 5, whenE _ 2] = e
       have hF : formE n = e := by
        rw [← hg, formE]
        simp only [h1, h2, hk, e32, e42, e22, decide_true, decide_false, Bool.true_or, Bool.false_or, Bool.not_true, Bool.not_false, Bool.true_and, Bool.false_and, eq_self_iff_true]
       rw [if_neg (by omega), hF, firstE_two] at hr
       by_cases he : e = 0
       ·rw [if_pos he] at hr
        simp only [go_sem, xP, xR, xS, he, h1, h2, hk]
        refine SemC.loopK mixed n.kids.length (fun k ρ σ' ds => (ds = [] ∧ ρ 1 = int i ∧ ρ 5 = .v (.pointer (some ⟨b5, 0, none⟩)) ∧ ρ 7 = int k ∧ σ' b5 = some (.row [int 3, slI n.term.coeffs, int 0, slI n.kids] 4 1)) ∧ Drop σ' σ ∧ kidsE i n.kids = kidsE i (n.kids.drop k)) (by kernel_rfl)
         ⟨by simp only [go_sem, xP, xR, xS, h1, h2], by repeat (first | exact Drop.refl _ | assumption | refine Drop.upd ?_ (by assumption)), rfl⟩ ?_
        rintro k ρ σ' ds hkl ⟨⟨rfl, h1', h5, h7, hs5⟩, hD, hz⟩
        rcases get_or_end n.kids k hkl with ⟨x, hx, hltk, hd⟩ | hkl
        ·rw [hd, kidsE_cons] at hz
         by_cases hx0 : x < 0
         ·simp only [go_sem, xP, xR, xS, h1', h5, h7, hs5, hx, hltk, hx0]
          exact retP_drop hD (by rw [hr, hz, if_pos (.inl hx0)])
         ·by_cases hxi : (i : Int) ≤ x
          ·simp only [go_sem, xP, xR, xS, h1', h5, h7, hs5, hx, hltk, hx0, hxi]
           exact retP_drop hD (by rw [hr, hz, if_pos (.inr hxi)])
          ·rw [if_neg (by omega)] at hz
           simp only [go_sem, xP, xR, xS, h1', h5, h7, hs5, hx, hltk, hx0, hxi]
           exact ⟨by rw [wrap_succ _ (by omega)], hD, hz⟩
        ·subst hkl
         rw [List.drop_length] at hz
         simp only [go_sem, xP, xR, xS, h1', h5, h7, hs5, Nat.lt_irrefl]
         exact retP_drop hD (by rw [hr, hz]; rfl)
       ·rw [if_neg he] at hr
        simp only [go_sem, xP, xR, xS, he]
        exact retP_drop (by repeat (first | exact Drop.refl _ | assumption | refine Drop.upd ?_ (by assumption))) (by rw [hr])
      ·simp only [go_sem, xP, xR, xS, Tryz.f141, hn, hlt, ↓nd_part hn, h0, h4, hk, h01', e22, e32, e42]
       intro b5 hb5
       simp only [go_sem, xP, xR, xS, hn, hlt, ↓nd_part hn, h0, h4, hk, h01', e22, e32, e42, h1, h2]
       refine dcallB_use (f67 _ _) rfl ?_
       simp only [go_sem, xP, xR, xS, e32, e42, e22, hk]
       refine dcallB_use (f67 _ _) rfl ?_
       simp only [go_sem, xP, xR, xS, e32, e42, e22, hk]
       refine callB_use (f67 _ _) rfl ?_
       simp only [go_sem, xP, xR, xS, e32, e42, e22, hk]
       refine callB_use (f33 [_, _, _] (by simp)) rfl ?_
       generalize hg : firstE [whenE _ 1, whenE _ 5, whenE _ 2] = e
       have hF : formE n = e := by
        rw [← hg, formE]
        simp only [h1, h2, hk, e32, e42, e22, decide_true, decide_false, Bool.true_or, Bool.false_or, Bool.not_true, Bool.not_false, Bool.true_and, Bool.false_and, eq_self_iff_true]
       rw [if_neg (by omega), hF, firstE_two] at hr
       by_cases he : e = 0
       ·rw [if_pos he] at hr
        simp only [go_sem, xP, xR, xS, he, h1, h2, hk]
        refine SemC.loopK mixed n.kids.length (fun k ρ σ' ds => (ds = [] ∧ ρ 1 = int i ∧ ρ 5 = .v (.pointer (some ⟨b5, 0, none⟩)) ∧ ρ 7 = int k ∧ σ' b5 = some (.row [int 3, slI n.term.coeffs, int n.term.const, slI n.kids] 4 1)) ∧ Drop σ' σ ∧ kidsE i n.kids = kidsE i (n.kids.drop k)) (by kernel_rfl)
         ⟨by simp only [go_sem, xP, xR, xS, h1, h2], by repeat (first | exact Drop.refl _ | assumption | refine Drop.upd ?_ (by assumption)), rfl⟩ ?_
        rintro k ρ σ' ds hkl ⟨⟨rfl, h1', h5, h7, hs5⟩, hD, hz⟩
        rcases get_or_end n.kids k hkl with ⟨x, hx, hltk, hd⟩ | hkl
        ·rw [hd, kidsE_cons] at hz
         by_cases hx0 : x < 0
         ·simp only [go_sem, xP, xR, xS, h1', h5, h7, hs5, hx, hltk, hx0]
          exact retP_drop hD (by rw [hr, hz, if_pos (.inl hx0)])
         ·by_cases hxi : (i : Int) ≤ x
          ·simp only [go_sem, xP, xR, xS, h1', h5, h7, hs5, hx, hltk, hx0, hxi]
           exact retP_drop hD (by rw [hr, hz, if_pos (.inr hxi)])
          ·rw [if_neg (by omega)] at hz
           simp only [go_sem, xP, xR, xS, h1', h5, h7, hs5, hx, hltk, hx0, hxi]
           exact ⟨by rw [wrap_succ _ (by omega)], hD, hz⟩
        ·subst hkl
         rw [List.drop_length] at hz
         simp only [go_sem, xP, xR, xS, h1', h5, h7, hs5, Nat.lt_irrefl]
         exact retP_drop hD (by rw [hr, hz]; rfl)
       ·rw [if_neg he] at hr
        simp only [go_sem, xP, xR, xS, he]
        exact retP_drop (by repeat (first | exact Drop.refl _ | assumption | refine Drop.upd ?_ (by assumption))) (by rw [hr])
    ·have h01' : ¬ (4 : Int) ≤ 1 := by omega
     by_cases h1 : (0 : Int) < n.term.coeffs.length
     ·simp only [go_sem, xP, xR, xS, Tryz.f141, hn, hlt, ↓nd_part hn, h0, h4, hk, h01', e22, e32, e42]
      intro b5 hb5
      simp only [go_sem, xP, xR, xS, hn, hlt, ↓nd_part hn, h0, h4, hk, h01', e22, e32, e42, h1]
      refine dcallB_use (f67 _ _) rfl ?_
      simp only [go_sem, xP, xR, xS, e32, e42, e22, hk]
      refine dcallB_use (f67 _ _) rfl ?_
      simp only [go_sem, xP, xR, xS, e32, e42, e22, hk]
      refine callB_use (f67 _ _) rfl ?_
      simp only [go_sem, xP, xR, xS, e32, e42, e22, hk]
      refine callB_use (f33 [_, _, _] (by simp)) rfl ?_
      generalize hg : firstE [whenE _ 1, whenE _ 5, whenE _ 2] = e
      have hF : formE n = e := by
       rw [← hg, formE]
       simp only [h1, hk, e32, e42, e22, decide_true, decide_false, Bool.true_or, Bool.false_or, Bool.not_true, Bool.not_false, Bool.true_and, Bool.false_and, eq_self_iff_true]
      rw [if_neg (by omega), hF, firstE_two] at hr
      by_cases he : e = 0
      ·rw [if_pos he] at hr
       simp only [go_sem, xP, xR, xS, he, h1, hk]
       refine SemC.loopK mixed n.kids.length (fun k ρ σ' ds => (ds = [] ∧ ρ 1 = int i ∧ ρ 5 = .v (.pointer (some ⟨b5, 0, none⟩)) ∧ ρ 7 = int k ∧ σ' b5 = some (.row [int 4, slI n.term.coeffs, int n.term.const, slI n.kids] 4 1)) ∧ Drop σ' σ ∧ kidsE i n.kids = kidsE i (n.kids.drop k)) (by kernel_rfl)
        ⟨by simp only [go_sem, xP, xR, xS, h1], by repeat (first | exact Drop.refl _ | assumption | refine Drop.upd ?_ (by assumption)), rfl⟩ ?_
       rintro k ρ σ' ds hkl ⟨⟨rfl, h1', h5, h7, hs5⟩, hD, hz⟩
       rcases get_or_end n.kids k hkl with ⟨x, hx, hltk, hd⟩ | hkl
       ·rw [hd, kidsE_cons] at hz
        by_cases hx0 : x < 0
        ·simp only [go_sem, xP, xR, xS, h1', h5, h7, hs5, hx, hltk, hx0]
         exact retP_drop hD (by rw [hr, hz, if_pos (.inl hx0)])
        ·by_cases hxi : (i : Int) ≤ x
         ·simp only [go_sem, xP, xR, xS, h1', h5, h7, hs5, hx, hltk, hx0, hxi]
          exact retP_drop hD (by rw [hr, hz, if_pos (.inr hxi)])
         ·rw [if_neg (by omega)] at hz
          simp only [go_sem, xP, xR, xS, h1', h5, h7, hs5, hx, hltk, hx0, hxi]
          exact ⟨by rw [wrap_succ _ (by omega)], hD, hz⟩
       ·subst hkl
        rw [List.drop_length] at hz
        simp only [go_sem, xP, xR, xS, h1', h5, h7, hs5, Nat.lt_irrefl]
        exact retP_drop hD (by rw [hr, hz]; rfl)
      ·rw [if_neg he] at hr
       simp only [go_sem, xP, xR, xS, he]
       exact retP_drop (by repeat (first | exact Drop.refl _ | assumption | refine Drop.upd ?_ (by assumption))) (by rw [hr])
     ·by_cases h2 : n.term.const = 0
      ·simp only [go_sem, xP, xR, xS, Tryz.f141, hn, hlt, ↓nd_part hn, h0, h4, hk, h01', e22, e32, e42]
       intro b5 hb5
       simp only [go_sem, xP, xR, xS, hn, hlt, ↓nd_part hn, h0, h4, hk, h01', e22, e32, e42, h1, h2]
       refine dcallB_use (f67 _ _) rfl ?_
       simp only [go_sem, xP, xR, xS, e32, e42, e22, hk]
       refine dcallB_use (f67 _ _) rfl ?_
       simp only [go_sem, xP, xR, xS, e32, e42, e22, hk]
       refine callB_use (f67 _ _) rfl ?_
       simp only [go_sem, xP, xR, xS, e32, e42, e22, hk]
       refine callB_use (f33 [_, _, _] (by simp)) rfl ?_
       generalize hg : firstE [whenE _ 1, whenE _ 5, whenE _ 2] = e
       have hF : formE n = e := by
        rw [← hg, formE]
        simp only [h1, h2, hk, e32, e42, e22, decide_true, decide_false, Bool.true_or, Bool.false_or, Bool.not_true, Bool.not_false, Bool.true_and, Bool.false_and, eq_self_iff_true]
       rw [if_neg (by omega), hF, firstE_two] at hr
       by_cases he : e = 0
       ·rw [if_pos he] at hr
        simp only [go_sem, xP, xR, xS, he, h1, h2, hk]
        refine SemC.loopK mixed n.kids.length (fun k ρ σ' ds => (ds = [] ∧ ρ 1 = int i ∧ ρ 5 = .v (.pointer (some ⟨b5, 0, none⟩)) ∧ ρ 7 = int k ∧ σ' b5 = some (.row [int 4, slI n.term.coeffs, int 0, slI n.kids] 4 1)) ∧ Drop σ' σ ∧ kidsE i n.kids = kidsE i (n.kids.drop k)) (by kernel_rfl)
         ⟨by simp only [go_sem, xP, xR, xS, h1, h2], by repeat (first | exact Drop.refl _ | assumption | refine Drop.upd ?_ (by assumption)), rfl⟩ ?_
        rintro k ρ σ' ds hkl ⟨⟨rfl, h1', h5, h7, hs5⟩, hD, hz⟩
        rcases get_or_end n.kids k hkl with ⟨x, hx, hltk, hd⟩ | hkl
        ·rw [hd, kidsE_cons] at hz
         by_cases hx0 : x < 0
         ·simp only [go_sem, xP, xR, xS, h1', h5, h7, hs5, hx, hltk, hx0]
          exact retP_drop hD (by rw [hr, hz, if_pos (.inl hx0)])
         ·by_cases hxi : (i : Int) ≤ x
          ·simp only [go_sem, xP, xR, xS, h1', h5, h7, hs5, hx, hltk, hx0, hxi]
           exact retP_drop hD (by rw [hr, hz, if_pos (.inr hxi)])
          ·rw [if_neg (by omega)] at hz
           simp only [go_sem, xP, xR, xS, h1', h5, h7, hs5, hx, hltk, hx0, hxi]
           exact ⟨by rw [wrap_succ _ (by omega)], hD, hz⟩
        ·subst hkl
         rw [List.drop_length] at hz
         simp only [go_sem, xP, xR, xS, h1', h5, h7, hs5, Nat.lt_irrefl]
         exact retP_drop hD (by rw [hr, hz]; rfl)
       ·rw [if_neg he] at hr
        simp only [go_sem, xP, xR, xS, he]
        exact retP_drop (by repeat (first | exact Drop.refl _ | assumption | refine Drop.upd ?_ (by assumption))) (by rw [hr])
      ·simp only [go_sem, xP, xR, xS, Tryz.f141, hn, hlt, ↓nd_part hn, h0, h4, hk, h01', e22, e32, e42]
       intro b5 hb5
       simp only [go_sem, xP, xR, xS, hn, hlt, ↓nd_part hn, h0, h4, hk, h01', e22, e32, e42, h1, h2]
       refine dcallB_use (f67 _ _) rfl ?_
       simp only [go_sem, xP, xR, xS, e32, e42, e22, hk]
       refine dcallB_use (f67 _ _) rfl ?_
       simp only [go_sem, xP, xR, xS, e32, e42, e22, hk]
       refine callB_use (f67 _ _) rfl ?_
       simp only [go_sem, xP, xR, xS, e32, e42, e22, hk]
       refine callB_use (f33 [_, _, _] (by simp)) rfl ?_
       generalize hg : firstE [whenE _ 1, whenE _ 5, whenE _ 2] = e
       have hF : formE n = e := by
        rw [← hg, formE]
        simp only [h1, h2, hk, e32, e42, e22, decide_true, decide_false, Bool.true_or, Bool.false_or, Bool.not_true, Bool.not_false, Bool.true_and, Bool.false_and, eq_self_iff_true]
       rw [if_neg (by omega), hF, firstE_two] at hr
       by_cases he : e = 0
       ·rw [if_pos he] at hr
        simp only [go_sem, xP, xR, xS, he, h1, h2, hk]
        refine SemC.loopK mixed n.kids.length (fun k ρ σ' ds => (ds = [] ∧ ρ 1 = int i ∧ ρ 5 = .v (.pointer (some ⟨b5, 0, none⟩)) ∧ ρ 7 = int k ∧ σ' b5 = some (.row [int 4, slI n.term.coeffs, int n.term.const, slI n.kids] 4 1)) ∧ Drop σ' σ ∧ kidsE i n.kids = kidsE i (n.kids.drop k)) (by kernel_rfl)
         ⟨by simp only [go_sem, xP, xR, xS, h1, h2], by repeat (first | exact Drop.refl _ | assumption | refine Drop.upd ?_ (by assumption)), rfl⟩ ?_
        rintro k ρ σ' ds hkl ⟨⟨rfl, h1', h5, h7, hs5⟩, hD, hz⟩
        rcases get_or_end n.kids k hkl with ⟨x, hx, hltk, hd⟩ | hkl
        ·rw [hd, kidsE_cons] at hz
         by_cases hx0 : x < 0
         ·simp only [go_sem, xP, xR, xS, h1', h5, h7, hs5, hx, hltk, hx0]
          exact retP_drop hD (by rw [hr, hz, if_pos (.inl hx0)])
         ·by_cases hxi : (i : Int) ≤ x
          ·simp only [go_sem, xP, xR, xS, h1', h5, h7, hs5, hx, hltk, hx0, hxi]
           exact retP_drop hD (by rw [hr, hz, if_pos (.inr hxi)])
          ·rw [if_neg (by omega)] at hz
           simp only [go_sem, xP, xR, xS, h1', h5, h7, hs5, hx, hltk, hx0, hxi]
           exact ⟨by rw [wrap_succ _ (by omega)], hD, hz⟩
        ·subst hkl
         rw [List.drop_length] at hz
         simp only [go_sem, xP, xR, xS, h1', h5, h7, hs5, Nat.lt_irrefl]
         exact retP_drop hD (by rw [hr, hz]; rfl)
       ·rw [if_neg he] at hr
        simp only [go_sem, xP, xR, xS, he]
        exact retP_drop (by repeat (first | exact Drop.refl _ | assumption | refine Drop.upd ?_ (by assumption))) (by rw [hr])
theorem f44 (f : Fm) (hl : Fits f.nodes.length) (hc : ∀ n ∈ f.nodes, NdFit n) : PCalls Tryz.prog Γ 44 [fmA f] (int (checkE f)) := by
 refine pcalls (ok44 Γ) fun σ => ?_
 simp only [go_sem, xP, xR, xS, Tryz.f44]
 refine dcallB_use (f68 _) rfl ?_
 simp only [go_sem, xP, xR, xS]
 refine dcallB_use (f67 _ _) rfl ?_
 simp only [go_sem, xP, xR, xS]
 refine callB_use (f67 _ _) rfl ?_
 simp only [go_sem, xP, xR, xS]
 refine callB_use (f33 [_, _, _] (by simp)) rfl ?_
 by_cases h : headE f = 0
 ·have hr : checkE f = nodesE f.vars 0 f.nodes := by rw [checkE, if_pos h]
  have h' := h
  unfold headE at h'
  simp only [go_sem, xP, xR, xS, h']
  refine SemC.loopK mixed f.nodes.length (fun k ρ σ' ds => σ' = σ ∧ ds = [] ∧ ρ 1 = .pp (fmC f) 0 ∧ ρ 4 = int k ∧ checkE f = nodesE f.vars k (f.nodes.drop k)) (by kernel_rfl) ⟨rfl, rfl, rfl, rfl, by simpa using hr⟩ ?_
  rintro k ρ σ' ds hk ⟨rfl, rfl, h1, h4, hz⟩
  rcases get_or_end f.nodes k hk with ⟨n, hn, hlt, hd⟩ | hk
  ·rw [hd, nodesE] at hz
   simp only [go_sem, xP, xR, xS, h1, h4, hlt]
   refine callB_use (f141 f k n hn (hc n (mem_of_get hn)).1 (hc n (mem_of_get hn)).2) rfl ?_
   by_cases hE : nodeE n k f.vars = 0
   ·rw [if_pos hE] at hz
    simp only [go_sem, xP, xR, xS, h1, h4, hE]
    exact ⟨hlt, by rw [wrap_succ _ (by omega)], hz⟩
   ·rw [if_neg hE] at hz
    simp only [go_sem, xP, xR, xS, h1, h4, hE]
    exact retP_eq (by rw [hz])
  ·subst hk
   rw [List.drop_length, nodesE] at hz
   simp only [go_sem, xP, xR, xS, h1, h4, Nat.lt_irrefl]
   exact retP_eq (by rw [hz])
 ·have h' := h
  unfold headE at h'
  simp only [go_sem, xP, xR, xS, h']
  exact retP_eq (by rw [checkE, if_neg h, headE])
def shortNdB (n : Nd) : Bool := decide (n.term.coeffs.length ≤ 10) && (!decide ((4 : Int) < n.kids.length) || decide ((n.kids.length : Int) = 201))
def shortFB (f : Fm) : Bool := f.nodes.all shortNdB && (decide ((f.nodes.length : Int) ≤ 12) || decide ((f.nodes.length : Int) = 201))
theorem f39 (f : Fm) (hl : f.nodes.length ≤ 9223372036854775807) : PCalls Tryz.prog Γ 39 [fmA f] (.v (.bool (shortFB f))) := by
 refine pcalls (ok39 Γ) fun σ => ?_
 simp only [go_sem, xP, xR, xS, Tryz.f39]
 refine SemC.loopK mixed f.nodes.length (fun k ρ σ' ds => (ds = [] ∧ ρ 1 = .pp (fmC f) 0 ∧ ρ 3 = int k) ∧ Drop σ' σ ∧ f.nodes.all shortNdB = (f.nodes.drop k).all shortNdB) (by kernel_rfl) ⟨⟨rfl, rfl, rfl⟩, Drop.refl _, rfl⟩ ?_
 rintro k ρ σ' ds hk ⟨⟨rfl, h1, h3⟩, hD, hz⟩
 rcases get_or_end f.nodes k hk with ⟨n, hn, hlt, hd⟩ | hk
 ·rw [hd, List.all_cons] at hz
  have hw : IntKind.i64.wrap ((k : Int) + 1) = ((k + 1 : Nat) : Int) := wrap_succ _ (by omega)
  simp only [go_sem, xP, xR, xS, h1, h3, hlt, ↓nd_part hn]
  intro b4 hb4
  simp only [go_sem, xP, xR, xS, h1, h3, hlt, ↓nd_part hn]
  refine callB_use (f58 n.term) rfl ?_
  by_cases c1 : n.term.coeffs.length ≤ 10
  ·by_cases c2 : (4 : Int) < n.kids.length
   ·by_cases c3 : (n.kids.length : Int) = 201
    ·simp only [go_sem, xP, xR, xS, c1, c2, c3, h1, h3]
     exact ⟨hlt, by rw [hw], hD.upd (hD.free hb4), by rw [hz, shortNdB]; simp only [c1, c3, decide_true, Bool.or_true, Bool.true_and]⟩
    ·simp only [go_sem, xP, xR, xS, c1, c2, c3, h1, h3]
     exact retP_drop (hD.upd (hD.free hb4)) (by rw [shortFB, hz, shortNdB]; simp only [c1, c2, c3, decide_true, decide_false, Bool.not_true, Bool.false_or, Bool.and_false, Bool.false_and])
   ·simp only [go_sem, xP, xR, xS, c1, c2, h1, h3]
    exact ⟨hlt, by rw [hw], hD.upd (hD.free hb4), by rw [hz, shortNdB]; simp only [c1, c2, decide_true, decide_false, Bool.not_false, Bool.true_or, Bool.true_and]⟩
  ·simp only [go_sem, xP, xR, xS, c1, h1, h3]
   exact retP_drop (hD.upd (hD.free hb4)) (by rw [shortFB, hz, shortNdB]; simp only [c1, decide_false, Bool.false_and])
 ·subst hk
  rw [List.drop_length, List.all_nil] at hz
  by_cases c1 : (f.nodes.length : Int) ≤ 12
  ·simp only [go_sem, xP, xR, xS, h1, h3, Nat.lt_irrefl, c1]
   exact retP_drop hD (by rw [shortFB, hz]; simp only [c1, decide_true, Bool.true_or, Bool.true_and])
  ·simp only [go_sem, xP, xR, xS, h1, h3, Nat.lt_irrefl, c1]
   exact retP_drop hD (by rw [shortFB, hz]; simp only [c1, decide_false, Bool.false_or, Bool.true_and])
def bv (b : Bool) : AV := .v (.bool b)
def slB (l : List Bool) : AV := .sl (l.map bv) l.length
theorem bv_get {l : List Bool} {k : Nat} {b : Bool} (h : l[k]? = some b) : (l.map bv)[k]? = some (.v (.bool b)) := by rw [List.getElem?_map, h]; rfl
attribute [go_sem] slB
theorem keep_others {σ0 σ σ2 : Sig} {s n : Nat} {a : AV} {cs : List AV} (hO : Others a σ σ2) (hG : Grow σ0 σ s a cs n) : Keep (KD noD) σ σ2 := fun b x hb hx => by
 rw [hO b ?_ (by rw [hb]; simp)]
 ·exact hb
 ·intro s1 o m e
  rcases hG with ⟨h, _⟩ | ⟨b', c, h0, h1, h2, h3⟩
  ·rcases h with rfl | rfl <;> cases e
  ·rw [e] at h0
   cases h0
   rw [h2] at hb
   cases hb
   rcases hx with h | h <;> exact h
theorem f139 (l : List Int) (hl : Fits l.length) (fv : AV) (g : Int → Bool) (σ : Sig) (hg : ∀ x ∈ l, ∀ σ' : Sig, (∀ b, σ b ≠ none → σ' b = σ b) → ∀ K : AV → Sig → Prop, K (.v (.bool (g x))) σ' → callB Tryz.prog Γ fv [int x] σ' K) :
  ACalls Tryz.prog Γ 139 [slI l, fv] σ fun r σ' => r = slB (l.map g) ∧ σ' = σ := by
 refine pcallsAt (ok139 Γ) ?_
 simp only [go_sem, xP, xR, xS, Tryz.f139]
 refine SemC.loopK mixed l.length (fun k ρ σ' ds => Drop σ' σ ∧ ds = [] ∧ ρ 1 = fv ∧ ρ 8 = slI l ∧ ρ 9 = int l.length ∧ ρ 10 = int k ∧ Grow σ σ' 1 (ρ 5) (((l.take k).map g).map bv) k ∧ ∀ b, σ b ≠ none → σ' b = σ b) (by kernel_rfl) ⟨.refl _, rfl, rfl, rfl, rfl, rfl, .nil _ _ _, fun _ _ => rfl⟩ ?_
 rintro k ρ σ' ds hk ⟨hD, rfl, h1, h8, h9, h10, hG, hE⟩
 rcases get_or_end l k hk with ⟨x, hx, hlt, hd⟩ | rfl
 ·simp only [go_sem, xP, xR, xS, h1, h8, h9, h10, hlt, hx]
  refine hg x (mem_of_get hx) _ hE _ ?_
  simp only [go_sem, xP, xR, xS, h1, h8, h9, h10]
  refine appB_sl (appT_sl el211 tk4 by4 el211 (by decide) rfl (by decide)) hD hG rfl rfl (by omega) (fun a' σ2 hD2 hO hG2 => ?_)
  simp only [go_sem, xP, xR, xS, h1, h8, h9, h10]
  refine ⟨hD2, by rw [wrap_succ _ (by omega)], ?_, fun b hb => ?_⟩
  ·rw [take_succ hx]
   simpa [bv] using hG2
  ·rw [hO b ?_ (by rw [hE b hb]; exact hb)]
   ·exact hE b hb
   ·intro s1 o m e
    rcases hG with ⟨h, _⟩ | ⟨b', c, h0, h1, h2, h3⟩
    ·rcases h with h | h <;> rw [h] at e <;> cases e
    ·rw [h0] at e
     cases e
     exact hb h1
 ·simp only [go_sem, xP, xR, xS, h8, h9, h10, Nat.lt_irrefl]
  have := hG.retP hD
  rw [List.take_length] at this
  simpa [slB] using this
def idxX {α : Type} (g : α → Bool) : Nat → List α → Int
 | _, [] => -1
 | k, x :: l => if g x then (k : Int) else idxX g (k + 1) l
theorem idxX_any {α : Type} (g : α → Bool) (k : Nat) (l : List α) : decide (0 ≤ idxX g k l) = l.any g := by
 induction l generalizing k with
 | nil => simp [idxX]
 | cons x l ih =>
  rw [List.any_cons, idxX]
  cases h : g x with
  | true => simp
  | false => simpa using ih (k + 1)
theorem f321 (l : List Bool) (hl : Fits l.length) (v : Bool) : PCalls Tryz.prog Γ 321 [slB l, .v (.bool v)] (int (idxX (fun b => v == b) 0 l)) := by
 refine pcalls (ok321 Γ) fun σ => ?_
 simp only [go_sem, xP, xR, xS, Tryz.f321]
 refine SemC.loopK mixed l.length (fun k ρ σ' ds => σ' = σ ∧ ds = [] ∧ ρ 0 = slB l ∧ ρ 1 = .v (.bool v) ∧ ρ 7 = int l.length ∧ ρ 8 = int k ∧ idxX (fun b => v == b) 0 l = idxX (fun b => v == b) k (l.drop k)) (by kernel_rfl) ⟨rfl, rfl, rfl, rfl, rfl, rfl, rfl⟩ ?_
 rintro k ρ σ' ds hk ⟨rfl, rfl, h0, h1, h7, h8, hz⟩
 rcases get_or_end l k hk with ⟨x, hx, hlt, hd⟩ | hk
 ·rw [hd, idxX] at hz
  cases hb : (v == x) with
  | true =>
   rw [hb] at hz
   simp only [go_sem, xP, xR, xS, h0, h1, h7, h8, hlt, ↓bv_get hx, hb]
   exact retP_eq (by rw [hz]; rfl)
  | false =>
   rw [hb] at hz
   simp only [go_sem, xP, xR, xS, h0, h1, h7, h8, hlt, ↓bv_get hx, hb]
   exact ⟨by rw [wrap_succ _ (by omega)], hz⟩
 ·subst hk
  rw [List.drop_length, idxX] at hz
  simp only [go_sem, xP, xR, xS, h0, h1, h7, h8, Nat.lt_irrefl]
  exact retP_eq (by rw [hz])
theorem f319 (l : List Bool) (hl : Fits l.length) (v : Bool) : PCalls Tryz.prog Γ 319 [slB l, .v (.bool v)] (.v (.bool (l.any fun b => v == b))) := by
 refine pcalls (ok319 Γ) fun σ => ?_
 simp only [go_sem, xP, xR, xS, Tryz.f319]
 refine callB_use (f321 l hl v) rfl ?_
 simp only [go_sem, xP, xR, xS]
 exact retP_eq (by rw [idxX_any])
theorem f317 (b : Bool) (l : List Bool) : PCalls Tryz.prog Γ 317 [slB (b :: l)] (.v (.bool (!b))) := by
 have h1 : (0 : Int) < ((l.length + 1 : Nat) : Int) := by omega
 refine pcalls (ok317 Γ) fun σ => ?_
 simp only [go_sem, xP, xR, xS, Tryz.f317, h1, List.length_cons, List.map_cons, bv, List.getElem?_cons_zero]
theorem f318 (l : List Bool) (hl : Fits l.length) : PCalls Tryz.prog Γ 318 [slB l] (.v (.bool (!(l.any fun b => false == b)))) := by
 refine pcalls (ok318 Γ) fun σ => ?_
 simp only [go_sem, xP, xR, xS, Tryz.f318]
 refine callB_use (f319 l hl false) rfl ?_
 simp only [go_sem, xP, xR, xS]
theorem f320 (l : List Bool) (hl : Fits l.length) : PCalls Tryz.prog Γ 320 [slB l] (.v (.bool (l.any fun b => true == b))) := by
 refine pcalls (ok320 Γ) fun σ => ?_
 simp only [go_sem, xP, xR, xS, Tryz.f320]
 refine callB_use (f319 l hl true) rfl ?_
 simp only [go_sem, xP, xR, xS]
theorem f140 (acc : List Bool) (k : Nat) (b : Bool) (hk : acc[k]? = some b) (b7 : Nat) (a : AV) (σ0 σ : Sig) (h7 : σ b7 = some (.row [a] 1 1)) (hG : Grow σ0 σ 1 a (acc.map bv) acc.length) : ACalls Tryz.prog Γ 140 [int k, .v (.pointer (some ⟨b7, 0, none⟩))] σ fun r σ' => r = .v (.bool b) ∧ σ' = σ := by
 have hlt := lt_of_getElem? hk
 rcases hG with ⟨_, h, _⟩ | ⟨b0, c, rfl, h1, h2, h3⟩
 ·simp at h
  rw [h] at hk
  simp at hk
 ·have hg := bv_get hk
  refine pcallsAt (ok140 Γ) ?_
  simp only [go_sem, xP, xR, xS, Tryz.f140, h7, h2, hlt, hg]
def kidsB (acc : List Bool) (kids : List Int) : List Bool := kids.map fun k => (acc[k.toNat]?).getD false
def nodeB (vs : List Int) (acc : List Bool) (n : Nd) : Bool :=
 if n.kind = 0 then decide (0 ≤ valueR n.term vs) else if n.kind = 1 then decide (valueR n.term vs = 0)
 else if n.kind = 2 then !((kidsB acc n.kids).headD false) else if n.kind = 3 then !((kidsB acc n.kids).any fun b => false == b) else (kidsB acc n.kids).any fun b => true == b
def truthF (vs : List Int) : List Nd → List Bool → List Bool
 | [], acc => acc
 | n :: l, acc => truthF vs l (acc ++ [nodeB vs acc n])
def holdsB (f : Fm) (vs : List Int) : Bool := (truthF vs f.nodes []).getLastD false
theorem truthF_len (vs : List Int) : ∀ (l : List Nd) (acc : List Bool), (truthF vs l acc).length = acc.length + l.length
 | [], acc => rfl
 | n :: l, acc => by rw [truthF, truthF_len vs l]; simp; omega
structure NodeOk (n : Nd) (i : Nat) (vars : Int) : Prop where
 lo : 0 ≤ n.kind
 hi : n.kind ≤ 4
 term : n.kind ≤ 1 → checkTermE n.term vars = 0 ∧ (n.term.coeffs.length : Int) = vars ∧ n.kids = []
 form : 2 ≤ n.kind → n.term = ⟨[], 0⟩ ∧ n.kids.length ≤ 200 ∧ (n.kind = 2 → n.kids.length = 1) ∧ ∀ k ∈ n.kids, 0 ≤ k ∧ k < i
theorem term_len {t : Tm} {n : Int} (h : checkTermE t n = 0) : (t.coeffs.length : Int) = n := by
 have h1 := (whenE_zero (by decide)).1 ((firstE_zero _).1 h (whenE (decide (¬ (t.coeffs.length : Int) = n)) 2) (by simp))
 simpa using h1
theorem node_ok {n : Nd} {i : Nat} {vars : Int} (h : nodeE n i vars = 0) : NodeOk n i vars := by
 unfold nodeE at h
 split at h
 ·cases h
 ·rename_i hk
  split at h
  ·rename_i h1
   have h2 := (firstE_zero _).1 h
   have h3 := h2 (checkTermE n.term vars) (by simp)
   have h4 := (whenE_zero (by decide)).1 (h2 (whenE (decide ((0 : Int) < n.kids.length)) 2) (by simp))
   refine ⟨by omega, by omega, fun _ => ⟨h3, term_len h3, ?_⟩, fun h => by omega⟩
   simp at h4
   exact h4
  ·rename_i h1
   have h2 := (firstE_zero _).1 h
   have h3 := (firstE_zero _).1 (h2 (formE n) (by simp))
   have a := (whenE_zero (by decide)).1 (h3 (whenE (decide ((0 : Int) < n.term.coeffs.length) || !decide (n.term.const = 0)) 1) (by simp))
   have b := (whenE_zero (by decide)).1 (h3 (whenE (decide ((200 : Int) < n.kids.length)) 5) (by simp))
   have c := (whenE_zero (by decide)).1 (h3 (whenE (decide (n.kind = 2) && !decide ((n.kids.length : Int) = 1)) 2) (by simp))
   have d := (firstE_zero _).1 (h2 (firstE (n.kids.map fun k => earlierE k i)) (by simp))
   refine ⟨by omega, by omega, fun h => by omega, fun _ => ⟨?_, ?_, fun h2 => ?_, fun k hk => ?_⟩⟩
   ·simp at a
    obtain ⟨nk, ⟨tc, tk⟩, nn⟩ := n
    simp only at a ⊢
    rw [a.1, a.2]
   ·simp at b; omega
   ·simp [h2] at c; omega
   ·have := d _ (List.mem_map_of_mem hk)
    have := (whenE_zero (by decide)).1 this
    simp at this
    omega
theorem nodes_zero {vars : Int} : ∀ (l : List Nd) (k : Nat), nodesE vars k l = 0 → ∀ i n, l[i]? = some n → nodeE n ((k + i : Nat) : Int) vars = 0
 | [], _, _, _, _, h => by simp at h
 | n :: l, k, h, i, m, hm => by
  rw [nodesE] at h
  split at h
  ·rename_i h1
   cases i with
   | zero => simp at hm; subst hm; exact h1
   | succ i =>
    have := nodes_zero l (k + 1) h i m (by simpa using hm)
    rwa [show k + 1 + i = k + (i + 1) by omega] at this
  ·rename_i h1
   exact absurd h h1
theorem check_ok {f : Fm} (h : checkE f = 0) : f.nodes ≠ [] ∧ f.nodes.length ≤ 200 ∧ 0 ≤ f.vars ∧ f.vars ≤ 8 ∧ ∀ i n, f.nodes[i]? = some n → NodeOk n i f.vars := by
 unfold checkE at h
 split at h
 ·rename_i h0
  have h1 := (firstE_zero _).1 h0
  have a := h1 (withinE f.vars 0 8) (by simp)
  have b := (whenE_zero (by decide)).1 (h1 (whenE (decide ((f.nodes.length : Int) = 0)) 10) (by simp))
  have c := (whenE_zero (by decide)).1 (h1 (whenE (decide ((200 : Int) < (f.nodes.length : Int))) 5) (by simp))
  simp at b c
  unfold withinE at a
  split at a
  ·cases a
  ·refine ⟨b, by omega, by omega, by omega, fun i n hn => ?_⟩
   have := nodes_zero f.nodes 0 h i n hn
   rw [Nat.zero_add] at this
   exact node_ok this
 ·rename_i h0
  exact absurd h h0
@[reducible] noncomputable def p41z (Γ : Glob) : Par := par Γ [7, 8, 37] [(1, [false, true]), (10, [false, false, false, false, false, true]), (12, [false, false, false, false, false, true]), (8, [false, false, false, false, false, false, false, false, false, false, false, true, true])] [(1, [0, 1, 0, 0, 8, 31, 63, 127, 255]), (10, [0, 0, 2, 6, 0, 30, 62, 126, 255, 511]), (12, [0, 0, 2, 6, 0, 30, 62, 126, 255, 511]), (8, [0, 0, 2, 6, 14, 30, 62, 0, 128, 384, 0, 1920, 4094, 8190, 16383, 32767])]
theorem ok41z (Γ : Glob) : FnOk (p41z Γ) 41 69 (Tryz.f41.body.getD .skip) Tryz.f41.results.toList 2 := fnOk (par_mixed _ _ _ _) Tryz.func41 rfl rfl rfl (by kernel_rfl) (Nat.le_of_ble_eq_true rfl) (by kernel_rfl)
theorem bools_ne {σ0 σ : Sig} {s n : Nat} {a : AV} {cs : List AV} (h : Grow σ0 σ s a cs n) (l : List Bool) : l.map bv ≠ [a] := fun e => by
 cases l with
 | nil => cases e
 | cons b l =>
  have := (List.cons.inj e).1
  rcases h with ⟨h, _⟩ | ⟨b', c, h0, h1, h2, h3⟩
  ·rcases h with h | h <;> rw [h] at this <;> cases this
  ·rw [h0] at this; cases this
def holdsE (f : Fm) (vs : List Int) : Int := firstE [checkE f, valuesE vs f.vars]
set_option maxHeartbeats 1000000 in
theorem f41 (hG' : Γ 0 = some sortsT) (f : Fm) (vs : List Int) (hl : Fits f.nodes.length) (hc : ∀ n ∈ f.nodes, NdFit n) (hvF : Fits vs.length) : PCalls Tryz.prog Γ 41 [fmA f, slI vs] (.tup [.v (.bool (if holdsE f vs = 0 then holdsB f vs else false)), int (holdsE f vs)]) := by
 have e20 : ((2 : Int) = 0) = False := eq_false (by decide)
 have e21 : ((2 : Int) = 1) = False := eq_false (by decide)
 have e30 : ((3 : Int) = 0) = False := eq_false (by decide)
 have e31 : ((3 : Int) = 1) = False := eq_false (by decide)
 have e40 : ((4 : Int) = 0) = False := eq_false (by decide)
 have e41 : ((4 : Int) = 1) = False := eq_false (by decide)
 refine pcalls (ok41z Γ) fun σ => ?_
 simp only [go_sem, xP, xR, xS, Tryz.f41]
 refine dcallB_use (f47 hG' f hl hc) rfl ?_
 simp only [go_sem, xP, xR, xS]
 refine callB_use (f136 vs _ hvF) rfl ?_
 simp only [go_sem, xP, xR, xS]
 refine callB_use (f135 [_, _] (by simp)) rfl ?_
 by_cases h : holdsE f vs = 0
 ·have h' := h
  unfold holdsE at h'
  have hE1 := (firstE_zero _).1 h'
  obtain ⟨hne, hl200, hv0, hv8, hok⟩ := check_ok (hE1 (checkE f) (by simp))
  have hvs : (vs.length : Int) = f.vars := by
   have := (whenE_zero (by decide)).1 ((firstE_zero _).1 (hE1 (valuesE vs f.vars) (by simp)) (whenE (!decide ((vs.length : Int) = f.vars)) 2) (by simp))
   simpa using this
  rw [h, if_pos rfl]
  simp only [go_sem, xP, xR, xS, h']
  intro b7 hb7'
  simp only [go_sem, xP, xR, xS, h']
  refine callB_use (f137 f) rfl ?_
  simp only [go_sem, xP, xR, xS]
  have hDs : Drop (upd σ b7 (some (.row [.v (.slice none 0 0)] 1 1))) σ := (Drop.refl σ).upd hb7'
  refine SemC.rangeL (xs := nodesX f.nodes) (D := noD) (pre := fun _ => True) (f := 220) (first := []) (captured := [.pp (fmC f) 0]) mixed (by simp only [go_sem, xP, xR, xS]) (f220 f hl) (by decide) (by kernel_rfl) (by kernel_rfl) noD_ctl (fun _ _ _ _ _ _ => trivial)
   (fun k σ' => ∃ acc a, σ' b7 = some (.row [a] 1 1) ∧ Grow σ σ' 1 a (acc.map bv) k ∧ Drop σ' σ ∧ (truthF vs f.nodes [] = truthF vs (f.nodes.drop k) acc ∧ acc.length = k))
   (fun e σ' => False)
   (fun k x ρ1 σ1 => ∃ n b8 acc a, (f.nodes[k]? = some n ∧ ρ1 2 = .pp (fmC f) 0 ∧ ρ1 3 = .pp [slI vs] 0 ∧ ρ1 7 = .v (.pointer (some ⟨b7, 0, none⟩)) ∧ ρ1 8 = .v (.pointer (some ⟨b8, 0, none⟩)) ∧ truthF vs f.nodes [] = truthF vs (f.nodes.drop k) acc ∧ acc.length = k) ∧ σ1 b8 = some (.row (atC n k) 5 1) ∧ σ1 b7 = some (.row [a] 1 1) ∧ Grow σ σ1 1 a (acc.map bv) k ∧ Drop σ1 σ)
   (by (intros; repeat' (first | exact Closed.row (fun h => h) | exact Closed.grow (fun _ h => h) | exact Closed.drop hDs (fun _ _ _ h => h) | exact Closed.map (fun h => h) | exact Closed.const _ | refine Closed.ex fun _ => ?_ | refine Closed.and ?_ ?_))) (by (intros; repeat' (first | exact Closed.row (fun h => h) | exact Closed.grow (fun _ h => h) | exact Closed.drop hDs (fun _ _ _ h => h) | exact Closed.map (fun h => h) | exact Closed.const _ | refine Closed.ex fun _ => ?_ | refine Closed.and ?_ ?_))) (by (intros; repeat' (first | exact Closed.row (fun h => h) | exact Closed.grow (fun _ h => h) | exact Closed.drop hDs (fun _ _ _ h => h) | exact Closed.map (fun h => h) | exact Closed.const _ | refine Closed.ex fun _ => ?_ | refine Closed.and ?_ ?_)))
   ?_ ?_ ?_ ?_ ?_
  ·exact ⟨[], _, by simp only [go_sem, xP, xR, xS], .nil _ _ _, (Drop.refl σ).upd hb7', rfl, rfl⟩
  ·rintro k x E σ' l hE hx ⟨acc, a, hs7, hG, hD, hz, hacc⟩
   obtain ⟨n, hn, rfl⟩ := nodesX_get hx
   have e2 : E 2 = .pp (fmC f) 0 := by rw [hE 2 (by decide)]; simp only [go_sem, xP, xR, xS]
   have e3 : E 3 = .pp [slI vs] 0 := by rw [hE 3 (by decide)]; simp only [go_sem, xP, xR, xS]
   have e7 : E 7 = .v (.pointer (some ⟨b7, 0, none⟩)) := by rw [hE 7 (by decide)]; simp only [go_sem, xP, xR, xS]
   simp only [go_sem, xP, xR, xS, e2, e3, e7]
   intro b8 hb8
   have n8 : ¬ b7 = b8 := nn hb8 hs7
   simp only [go_sem, xP, xR, xS, e2, e3, e7, n8]
   refine ⟨(Keep.refl _ _).upd (keep_none hb8), n, b8, acc, a, ?_⟩
   simp only [go_sem, xP, xR, xS, e2, e3, e7, n8, hn, hs7]
   exact ⟨⟨hz, hacc⟩, (hG.updF hb8), hD.upd (hD.free hb8)⟩
  ·rintro k x ρ1 σ' l hx ⟨n, b8, acc, a, ⟨hn, h2, h3, h7, h8, hz, hacc⟩, hs8, hs7, hG, hD⟩
   have n8 : ¬ b7 = b8 := rn hs7 hs8 (by decide)
   have hk := hok k n hn
   have hk200 := lt_of_getElem? hn
   have hcn := hc n (mem_of_get hn)
   have k10 : ((1 : Int) = 0) = False := eq_false (by decide)
   by_cases hk0 : n.kind = 0
   ·have ht := (hk.term (by omega)).2.1
    simp only [go_sem, xP, xR, xS, h2, h3, h7, h8, hs8, hs7, n8, hk0]
    refine dcallB_use (f138 n.term vs hvF (by omega)) rfl ?_
    simp only [go_sem, xP, xR, xS, h2, h3, h7, h8, hs8, hs7]
    refine appB_sl (appT_sl el211 tk4 by4 el211 (by decide) rfl (by decide)) hD hG rfl rfl (by omega) (fun a' σ2 hD2 hO hG2 => ?_)
    have e7 : σ2 b7 = some (.row [a] 1 1) := by
     rw [hO b7 (hG.neC hs7 (bools_ne hG acc)) (by rw [hs7]; simp)]; exact hs7
    have hc2 := hG2.cellsX
    have ho2 := hG2.oneX
    simp only [go_sem, xP, xR, xS, h2, h3, h7, h8, e7, hc2, ho2]
    refine ⟨(keep_others hO hG).trans ((Keep.refl _ _).upd (keep_row e7 (fun h => h))), acc ++ [nodeB vs acc n], a', by simp only [go_sem, xP, xR, xS], ?_, hD2.upd hb7', by rw [hz, drop_of_get hn, truthF], by simp [hacc]⟩
    have hnb : nodeB vs acc n = decide (0 ≤ valueR n.term vs) := by unfold nodeB; rw [if_pos hk0]
    rw [hnb]
    have hG3 : Grow σ σ2 1 a' ((acc ++ [decide (0 ≤ valueR n.term vs)]).map bv) (k + 1) := by simpa [bv] using hG2
    exact hG3.updW (hG3.neC e7 (bools_ne hG _)) _
   ·by_cases hk1 : n.kind = 1
    ·have ht := (hk.term (by omega)).2.1
     simp only [go_sem, xP, xR, xS, h2, h3, h7, h8, hs8, hs7, n8, hk1, k10]
     refine dcallB_use (f138 n.term vs hvF (by omega)) rfl ?_
     simp only [go_sem, xP, xR, xS, h2, h3, h7, h8, hs8, hs7]
     refine appB_sl (appT_sl el211 tk4 by4 el211 (by decide) rfl (by decide)) hD hG rfl rfl (by omega) (fun a' σ2 hD2 hO hG2 => ?_)
     have e7 : σ2 b7 = some (.row [a] 1 1) := by
      rw [hO b7 (hG.neC hs7 (bools_ne hG acc)) (by rw [hs7]; simp)]; exact hs7
     have hc2 := hG2.cellsX
     have ho2 := hG2.oneX
     simp only [go_sem, xP, xR, xS, h2, h3, h7, h8, e7, hc2, ho2]
     refine ⟨(keep_others hO hG).trans ((Keep.refl _ _).upd (keep_row e7 (fun h => h))), acc ++ [nodeB vs acc n], a', by simp only [go_sem, xP, xR, xS], ?_, hD2.upd hb7', by rw [hz, drop_of_get hn, truthF], by simp [hacc]⟩
     have hnb : nodeB vs acc n = decide (valueR n.term vs = 0) := by unfold nodeB; rw [if_neg hk0, if_pos hk1]
     rw [hnb]
     have hG3 : Grow σ σ2 1 a' ((acc ++ [decide (valueR n.term vs = 0)]).map bv) (k + 1) := by simpa [bv] using hG2
     exact hG3.updW (hG3.neC e7 (bools_ne hG _)) _
    ·obtain ⟨hterm, hk200', hk1', hkr⟩ := hk.form (by have := hk.lo; omega)
     have hcall : ∀ τ : Sig, (∀ b x, σ' b = some x → τ b = some x) → ∀ K : AV → Sig → Prop, K (slB (kidsB acc n.kids)) τ → callB Tryz.prog Γ (.fn (.func 139) [] []) [slI n.kids, .fn (.func 140) [] [.v (.pointer (some ⟨b7, 0, none⟩))]] τ K := fun τ heτ K hK => by
      refine callB_a (ACalls.mono (f139 n.kids hcn.2 _ (fun k => (acc[k.toNat]?).getD false) τ ?_) (fun r σ2 ⟨hr, hs⟩ => by subst hr; subst hs; exact hK)) rfl
      intro x hx σ2 hext0 K hK
      have hext : ∀ b, σ' b ≠ none → σ2 b = σ' b := fun b hb => by
       cases h : σ' b with
       | none => exact absurd h hb
       | some y => rw [hext0 b (by rw [heτ b y h]; simp), heτ b y h]
      obtain ⟨hxr0, hxr⟩ : 0 ≤ x ∧ x < (k : Int) := hkr x hx
      obtain ⟨b, hb⟩ : ∃ b, acc[x.toNat]? = some b := ⟨acc[x.toNat]'(by omega), List.getElem?_eq_getElem _⟩
      have hxe : x = ((x.toNat : Nat) : Int) := by omega
      refine callB_a (args' := [int (x.toNat : Nat), .v (.pointer (some ⟨b7, 0, none⟩))]) (ACalls.mono (f140 acc x.toNat b hb b7 a σ σ2 (by rw [hext b7 (by rw [hs7]; simp)]; exact hs7) (by rw [hacc]; exact hG.frame fun b _ h => hext b h)) (fun r σ3 ⟨hr, hs⟩ => by subst hr; subst hs; simpa [hb] using hK)) (by rw [← hxe]; rfl)
     have hkl : (kidsB acc n.kids).length = n.kids.length := by simp [kidsB]
     have hcases : n.kind = 2 ∨ n.kind = 3 ∨ n.kind = 4 := by have := hk.lo; have := hk.hi; omega
     rcases hcases with hk2 | hk2 | hk2
     ·obtain ⟨x, hx⟩ : ∃ x, n.kids = [x] := List.length_eq_one_iff.1 (hk1' hk2)
      obtain ⟨b, hb⟩ : ∃ b, kidsB acc n.kids = [b] := ⟨_, by rw [hx]; rfl⟩
      rw [hb] at hcall
      simp only [go_sem, xP, xR, xS, h2, h3, h7, h8, hs8, hs7, n8, hk2, e20, e21, e30, e31, e40, e41, hG', sortsT]
      refine ⟨_, hcall, ?_⟩
      simp only [go_sem, xP, xR, xS, h2, h3, h7, h8, hs8, hs7, n8, hk2, hG', sortsT]
      refine dcallB_use (f317 b []) rfl ?_
      simp only [go_sem, xP, xR, xS, h2, h3, h7, h8, hs8, hs7]
      refine appB_sl (appT_sl el211 tk4 by4 el211 (by decide) rfl (by decide)) hD hG rfl rfl (by omega) (fun a' σ2 hD2 hO hG2 => ?_)
      have e7 : σ2 b7 = some (.row [a] 1 1) := by
       rw [hO b7 (hG.neC hs7 (bools_ne hG acc)) (by rw [hs7]; simp)]; exact hs7
      have hc2 := hG2.cellsX
      have ho2 := hG2.oneX
      simp only [go_sem, xP, xR, xS, h2, h3, h7, h8, e7, hc2, ho2]
      refine ⟨(keep_others hO hG).trans ((Keep.refl _ _).upd (keep_row e7 (fun h => h))), acc ++ [nodeB vs acc n], a', by simp only [go_sem, xP, xR, xS], ?_, hD2.upd hb7', by rw [hz, drop_of_get hn, truthF], by simp [hacc]⟩
      have hnb : nodeB vs acc n = !b := by unfold nodeB; rw [if_neg hk0, if_neg hk1, if_pos hk2, hb]; rfl
      rw [hnb]
      have hG3 : Grow σ σ2 1 a' ((acc ++ [!b]).map bv) (k + 1) := by simpa [bv] using hG2
      exact hG3.updW (hG3.neC e7 (bools_ne hG _)) _
     ·simp only [go_sem, xP, xR, xS, h2, h3, h7, h8, hs8, hs7, n8, hk2, e20, e21, e30, e31, e40, e41, hG', sortsT]
      refine ⟨_, hcall, ?_⟩
      simp only [go_sem, xP, xR, xS, h2, h3, h7, h8, hs8, hs7, n8, hk2, hG', sortsT]
      refine dcallB_use (f318 _ (by rw [hkl]; exact hcn.2)) rfl ?_
      simp only [go_sem, xP, xR, xS, h2, h3, h7, h8, hs8, hs7]
      refine appB_sl (appT_sl el211 tk4 by4 el211 (by decide) rfl (by decide)) hD hG rfl rfl (by omega) (fun a' σ2 hD2 hO hG2 => ?_)
      have e7 : σ2 b7 = some (.row [a] 1 1) := by
       rw [hO b7 (hG.neC hs7 (bools_ne hG acc)) (by rw [hs7]; simp)]; exact hs7
      have hc2 := hG2.cellsX
      have ho2 := hG2.oneX
      simp only [go_sem, xP, xR, xS, h2, h3, h7, h8, e7, hc2, ho2]
      refine ⟨(keep_others hO hG).trans ((Keep.refl _ _).upd (keep_row e7 (fun h => h))), acc ++ [nodeB vs acc n], a', by simp only [go_sem, xP, xR, xS], ?_, hD2.upd hb7', by rw [hz, drop_of_get hn, truthF], by simp [hacc]⟩
      have hnb : nodeB vs acc n = !((kidsB acc n.kids).any fun b => false == b) := by unfold nodeB; rw [if_neg hk0, if_neg hk1, if_neg (by omega), if_pos hk2]
      rw [hnb]
      have hG3 : Grow σ σ2 1 a' ((acc ++ [!((kidsB acc n.kids).any fun b => false == b)]).map bv) (k + 1) := by simpa [bv] using hG2
      exact hG3.updW (hG3.neC e7 (bools_ne hG _)) _
     ·simp only [go_sem, xP, xR, xS, h2, h3, h7, h8, hs8, hs7, n8, hk2, e20, e21, e30, e31, e40, e41, hG', sortsT]
      refine ⟨_, hcall, ?_⟩
      simp only [go_sem, xP, xR, xS, h2, h3, h7, h8, hs8, hs7, n8, hk2, hG', sortsT]
      refine dcallB_use (f320 _ (by rw [hkl]; exact hcn.2)) rfl ?_
      simp only [go_sem, xP, xR, xS, h2, h3, h7, h8, hs8, hs7]
      refine appB_sl (appT_sl el211 tk4 by4 el211 (by decide) rfl (by decide)) hD hG rfl rfl (by omega) (fun a' σ2 hD2 hO hG2 => ?_)
      have e7 : σ2 b7 = some (.row [a] 1 1) := by
       rw [hO b7 (hG.neC hs7 (bools_ne hG acc)) (by rw [hs7]; simp)]; exact hs7
      have hc2 := hG2.cellsX
      have ho2 := hG2.oneX
      simp only [go_sem, xP, xR, xS, h2, h3, h7, h8, e7, hc2, ho2]
      refine ⟨(keep_others hO hG).trans ((Keep.refl _ _).upd (keep_row e7 (fun h => h))), acc ++ [nodeB vs acc n], a', by simp only [go_sem, xP, xR, xS], ?_, hD2.upd hb7', by rw [hz, drop_of_get hn, truthF], by simp [hacc]⟩
      have hnb : nodeB vs acc n = (kidsB acc n.kids).any fun b => true == b := by unfold nodeB; rw [if_neg hk0, if_neg hk1, if_neg (by omega), if_neg (by omega)]
      rw [hnb]
      have hG3 : Grow σ σ2 1 a' ((acc ++ [(kidsB acc n.kids).any fun b => true == b]).map bv) (k + 1) := by simpa [bv] using hG2
      exact hG3.updW (hG3.neC e7 (bools_ne hG _)) _
  ·rintro σ' r hr' ⟨acc, a, hs7, hG, hD, hz, hacc⟩ hd
   have hlen : (nodesX f.nodes).length = f.nodes.length := by rw [nodesX, List.length_mapIdx]
   rw [hlen] at hG hz hacc
   rw [List.drop_length, truthF] at hz
   have hpos : 0 < f.nodes.length := List.length_pos_iff.2 hne
   have n1 : ¬ b7 = r := dn hd hs7
   rcases hG with ⟨_, hG, _⟩ | ⟨b0, c, rfl, hn0, hr0, hl0⟩
   ·have := congrArg List.length hG
    simp at this
    rw [this] at hacc
    simp at hacc
    omega
   ·have hw : IntKind.i64.wrap ((f.nodes.length : Int) - 1) = ((f.nodes.length - 1 : Nat) : Int) := by rw [wrap_i64 _ (by omega) (by omega)]; omega
    have hlt1 : f.nodes.length - 1 < f.nodes.length := by omega
    obtain ⟨b, hb⟩ : ∃ b, acc[f.nodes.length - 1]? = some b := ⟨acc[f.nodes.length - 1]'(by omega), List.getElem?_eq_getElem _⟩
    have hres : holdsB f vs = b := by
     rw [holdsB, hz, List.getLastD_eq_getLast?, List.getLast?_eq_getElem?, hacc, hb]
     rfl
    simp only [go_sem, xP, xR, xS, hs7, hr0, hw, hlt1, ↓bv_get hb, hd]
    exact retP_drop (hD.ersX (un hr').2) (by rw [hres])
  ·rintro e σ' r hr' hF hd
   exact hF.elim
 ·have h' := h
  unfold holdsE at h'
  simp only [go_sem, xP, xR, xS, h']
  exact retP_eq (by rw [if_neg h]; rfl)
end Go.AL

namespace Go.AL
open Go.Proofs
theorem pcalls_nil {P : Program} {Γ : Glob} {f : FuncId} {args : List AV} {r : AV} (h1 : PCalls P Γ f (.v (.slice none 0 0) :: args) r) (h2 : ∀ a c, PCalls P Γ f (.v (.slice (some a) 0 c) :: args) r) : PCalls P Γ f (.sl [] 0 :: args) r := fun σ => by
 refine ⟨(h1 σ).1, fun w vs hr hv => ?_⟩
 cases hv with
 | cons hx hs =>
  cases hx with
  | slnil => exact (h1 σ).2 w _ hr (.cons (.v _) hs)
  | sl _ _ _ => exact (h2 _ _ σ).2 w _ hr (.cons (.v _) hs)
theorem appB_weak {P : Program} {Γ : Glob} {σ : Sig} {t0 t1 : TypeId} {s x x' : AV} {K : AV → Sig → Prop} (hx : ∀ w v, Rep w σ x v → Rep w σ x' v) (h : appB P Γ σ t0 t1 s x' K) : appB P Γ σ t0 t1 s x K := fun ty w vs hr hv => by
 cases hv with
 | cons h1 h2 =>
  cases h2 with
  | cons h3 h4 =>
   cases h4
   exact h ty w _ hr (.cons h1 (.cons (hx _ _ h3) .nil))
theorem weak_empty {σ : Sig} {a : Addr} {c : Nat} (w : World) (v : Value) (h : Rep w σ (.v (.slice (some a) 0 c)) v) : Rep w σ (.sl [] 0) v := by
 cases h
 exact .sl .nil (fun h => absurd rfl h) (Nat.zero_le _)
variable {Γ : Glob}
attribute [local irreducible] codeW opsW dopsW
theorem Grow.neS {σ0 σ : Sig} {s n b s' c' : Nat} {a : AV} {cs cs' : List AV} (h : Grow σ0 σ s a cs n) (hb : σ b = some (.row cs' s' c')) (hs : s' ≠ s) : ∀ s1 o m, a ≠ .own b s1 o m := fun s1 o m e => by
 rcases h with ⟨h, _⟩ | ⟨b', c, h0, h1, h2, h3⟩
 ·rcases h with h | h <;> rw [h] at e <;> cases e
 ·rw [h0] at e
  cases e
  rw [hb] at h2
  cases h2
  exact hs rfl
theorem f193 (l : List Int) (hl : Fits l.length) : PCalls Tryz.prog Γ 193 [slI l] (slI l) := by
 by_cases h : l = []
 ·subst h
  refine pcalls_nil ?_ (fun a c => ?_)
  ·refine pcalls (ok193 Γ) fun σ => ?_
   simp only [go_sem, xP, xR, xS, Tryz.f193]
   exact ⟨.nil, Drop.refl _⟩
  ·refine pcalls (ok193 Γ) fun σ => ?_
   simp only [go_sem, xP, xR, xS, Tryz.f193]
   refine appB_weak weak_empty (appB_pure (appT_sl el46 tk3 by3 el46 (by decide) rfl (by decide)) (.inr rfl) (src_slI _ []) (by simp [ints]) (by omega) ?_)
   simp only [go_sem, xP, xR, xS]
 ·have h' : ints l ≠ [] := by simpa [ints] using h
  refine pcalls (ok193 Γ) fun σ => ?_
  simp only [go_sem, xP, xR, xS, Tryz.f193, h']
  refine appB_pure (appT_sl el46 tk3 by3 el46 (by decide) rfl (by decide)) (.inr rfl) (src_slI _ l) (by simp [ints]) (by omega) ?_
  simp only [go_sem, xP, xR, xS]
theorem f151 (t : Tm) (hl : Fits t.coeffs.length) : PCalls Tryz.prog Γ 151 [tmA t] (tmA t) := by
 refine pcalls (ok151 Γ) fun σ => ?_
 simp only [go_sem, xP, xR, xS, Tryz.f151]
 intro b hb
 simp only [go_sem, xP, xR, xS]
 refine callB_use (f193 t.coeffs hl) rfl ?_
 simp only [go_sem, xP, xR, xS]
 exact retP_drop (by repeat (first | exact Drop.refl _ | assumption | refine Drop.upd ?_ (by assumption))) (rfl)
theorem f226 (l : List Int) (hl : Fits l.length) (fv : AV) (g : Int → Int) (hg : ∀ x ∈ l, DCall Tryz.prog Γ fv [int x] (int (g x))) : PCalls Tryz.prog Γ 226 [slI l, fv] (slI (l.map g)) := by
 refine pcalls (ok226 Γ) fun σ => ?_
 simp only [go_sem, xP, xR, xS, Tryz.f226]
 refine SemC.loopK mixed l.length (fun k ρ σ' ds => Drop σ' σ ∧ ds = [] ∧ ρ 1 = fv ∧ ρ 8 = slI l ∧ ρ 9 = int l.length ∧ ρ 10 = int k ∧ Grow σ σ' 1 (ρ 5) (ints ((l.take k).map g)) k) (by kernel_rfl) ⟨.refl _, rfl, rfl, rfl, rfl, rfl, .nil _ _ _⟩ ?_
 rintro k ρ σ' ds hk ⟨hD, rfl, h1, h8, h9, h10, hG⟩
 rcases get_or_end l k hk with ⟨x, hx, hlt, hd⟩ | rfl
 ·simp only [go_sem, xP, xR, xS, h1, h8, h9, h10, hlt, hx]
  refine callB_d (hg x (mem_of_get hx)) ?_
  simp only [go_sem, xP, xR, xS]
  refine appB_sl (appT_sl el46 tk3 by3 el46 (by decide) rfl (by decide)) hD hG rfl rfl (by omega) (fun a' σ2 hD2 hO hG2 => ?_)
  simp only [go_sem, xP, xR, xS, h1, h8, h9, h10]
  refine ⟨hD2, by rw [wrap_succ _ (by omega)], ?_⟩
  rw [take_succ hx]
  simpa [ints, int] using hG2
 ·simp only [go_sem, xP, xR, xS, h8, h9, h10, Nat.lt_irrefl]
  have := hG.retP hD
  simpa [slI] using this
def plusC (m : Int) : List Int → List Int → List Int
 | a :: bs, c :: cs => IntKind.i64.wrap (a + IntKind.i64.wrap (m * c)) :: plusC m bs cs
 | bs, [] => bs
 | [], _ => []
theorem plusC_nil (m : Int) (l : List Int) : plusC m l [] = l := by cases l <;> rfl
theorem plusC_len (m : Int) : ∀ (l cs : List Int), (plusC m l cs).length = l.length
 | [], [] => rfl
 | [], _ :: _ => rfl
 | _ :: _, [] => rfl
 | a :: l, c :: cs => by rw [plusC, List.length_cons, List.length_cons, plusC_len m l cs]
theorem plusC_get (m : Int) : ∀ (l cs : List Int) (k : Nat) (a c : Int), l[k]? = some a → cs[k]? = some c → (plusC m l cs)[k]? = some (IntKind.i64.wrap (a + IntKind.i64.wrap (m * c)))
 | [], _, _, _, _, h, _ => by simp at h
 | _ :: _, [], _, _, _, _, h => by simp at h
 | x :: l, y :: cs, 0, a, c, h, k => by simp at h k; subst h; subst k; rfl
 | x :: l, y :: cs, k + 1, a, c, h, h' => by
  rw [plusC, List.getElem?_cons_succ]
  exact plusC_get m l cs k a c (by simpa using h) (by simpa using h')
theorem plusC_past (m : Int) : ∀ (l cs : List Int) (k : Nat), cs.length ≤ k → (plusC m l cs).drop k = l.drop k
 | l, [], k, _ => by rw [plusC_nil]
 | [], c :: cs, k, _ => rfl
 | a :: l, c :: cs, 0, h => by simp at h
 | a :: l, c :: cs, k + 1, h => by
  rw [plusC, List.drop_succ_cons, List.drop_succ_cons]
  exact plusC_past m l cs k (by simpa using h)
def mix (l l' : List Int) (k : Nat) : List Int := l'.take k ++ l.drop k
theorem mix_zero (l l' : List Int) : mix l l' 0 = l := by simp [mix]
theorem mix_len {l l' : List Int} (h : l'.length = l.length) {k : Nat} (hk : k ≤ l.length) : (mix l l' k).length = l.length := by simp [mix]; omega
theorem mix_get {l l' : List Int} (h : l'.length = l.length) {k : Nat} (hk : k ≤ l.length) : (mix l l' k)[k]? = l[k]? := by
 have hm : (l'.take k).length = k := by rw [List.length_take, h]; exact Nat.min_eq_left hk
 rw [mix, List.getElem?_append_right (by omega), hm, Nat.sub_self, List.getElem?_drop, Nat.add_zero]
theorem mix_set {l l' : List Int} (h : l'.length = l.length) {k : Nat} {x : Int} (hk : k < l.length) (hx : l'[k]? = some x) : (mix l l' k).set k x = mix l l' (k + 1) := by
 have hl : (l'.take k).length = k := by simp; omega
 rw [mix, mix, take_succ hx, List.set_append_right _ _ (by omega), hl, Nat.sub_self]
 obtain ⟨y, hy, hd⟩ : ∃ y, l[k]? = some y ∧ l.drop k = y :: l.drop (k + 1) := ⟨l[k], List.getElem?_eq_getElem hk, by rw [List.drop_eq_getElem_cons hk]⟩
 rw [hd, List.set_cons_zero, List.append_assoc, List.singleton_append]
theorem ints_put' {l : List Int} {k : Nat} {x : Int} (h : k < l.length) : putL (ints l) k [AV.v (.int .i64 x)] = ints (l.set k x) := by
 rw [putL, ints, ints, List.map_set, List.set_eq_take_append_cons_drop, if_pos (by simpa using h)]
 simp [int]
theorem ints_zeros' (n : Nat) : (List.replicate n [AV.v (.int .i64 0)]).flatten = ints (List.replicate n 0) := by
 induction n with
 | zero => rfl
 | succ n ih => rw [List.replicate_succ, List.replicate_succ, List.flatten_cons, ih]; rfl
theorem ints_one (l : List Int) : (ints l).all AV.one = true := by
 induction l with
 | nil => rfl
 | cons t l ih => rw [ints, List.map_cons, List.all_cons]; exact ih
theorem frz_own {σ : Sig} {b s c n : Nat} {cs : List AV} (h : σ b = some (.row cs s c)) (hn : cs.length = n * s) {σ' : Sig} (h' : σ' b = none) : Fz σ σ' (.own b s 0 n) (.sl cs n) := by
 refine .own h h' ?_
 have : (cs.drop (0 * s)).take (n * s) = cs := by simp [← hn]
 rw [this]
 exact .refl cs
def plusT (t x : Tm) (m : Int) : Tm := ⟨plusC m t.coeffs x.coeffs, IntKind.i64.wrap (t.const + IntKind.i64.wrap (m * x.const))⟩
theorem f158 (t x : Tm) (m : Int) (hl : Fits t.coeffs.length) (hx : x.coeffs.length ≤ t.coeffs.length) : PCalls Tryz.prog Γ 158 [tmA t, tmA x, int m] (tmA (plusT t x m)) := by
 have hA8 : (8 : Int) * t.coeffs.length ≤ 140737488355328 := by omega
 have hA9 : (t.coeffs.length : Int) ≤ 9223372036854775807 := by omega
 refine pcalls (ok158 Γ) fun σ => ?_
 simp only [go_sem, xP, xR, xS, Tryz.f158]
 intro b6 hb6
 simp only [go_sem, xP, xR, xS, hA8, hA9, ints_zeros']
 intro bs hbs
 obtain ⟨ns, hbs⟩ := un hbs
 have ns' : ¬ b6 = bs := fun e => ns e.symm
 simp only [go_sem, xP, xR, xS, hA8, hA9, ints_zeros', ns, ns']
 intro b7 hb7
 obtain ⟨n7s, hb7⟩ := un hb7
 obtain ⟨n76, hb7⟩ := un hb7
 have n7s' : ¬ bs = b7 := fun e => n7s e.symm
 have n76' : ¬ b6 = b7 := fun e => n76 e.symm
 simp only [go_sem, xP, xR, xS, hA8, hA9, ints_zeros', ns, ns', n7s, n7s', n76, n76']
 refine copB_all (m := t.coeffs.length) (c := t.coeffs.length) (cs := ints (List.replicate t.coeffs.length 0)) (xs := ints t.coeffs) el46 tk3 (by simp only [go_sem, xP, xR, xS, n7s', ns]) (by simp [ints]) (src_slI _ t.coeffs) (ints_one _) ?_
 simp only [go_sem, xP, xR, xS, hA8, hA9, ns, ns', n7s, n7s', n76, n76']
 have hp := plusC_len m t.coeffs x.coeffs
 refine SemC.loopK mixed x.coeffs.length (fun k ρ σ' ds => (ds = [] ∧ ρ 2 = int m ∧ ρ 6 = .v (.pointer (some ⟨b6, 0, none⟩)) ∧ ρ 7 = .v (.pointer (some ⟨b7, 0, none⟩)) ∧ ρ 28 = slI x.coeffs ∧ ρ 29 = int x.coeffs.length ∧ ρ 30 = int k ∧ σ' b6 = some (.row [.v (.slice none 0 0), int 0] 2 1) ∧ σ' b7 = some (.row [.own bs 1 0 t.coeffs.length, int (plusT t x m).const] 2 1) ∧ σ' bs = some (.row (ints (mix t.coeffs (plusC m t.coeffs x.coeffs) k)) 1 t.coeffs.length)) ∧ Drop σ' σ) (by kernel_rfl)
  ⟨by simp only [go_sem, xP, xR, xS, n7s, n7s', n76, n76', ns, ns', mix_zero, plusT], by repeat (first | exact Drop.refl _ | assumption | refine Drop.upd ?_ (by assumption))⟩ ?_
 rintro k ρ σ' ds hk ⟨⟨rfl, h2, h6, h7, h28, h29, h30, hs6, hs7, hss⟩, hD⟩
 have hml := mix_len hp (k := k) (by omega)
 rcases get_or_end x.coeffs k hk with ⟨c, hc, hlt, hd⟩ | hk
 ·obtain ⟨a, ha⟩ : ∃ a, t.coeffs[k]? = some a := ⟨t.coeffs[k]'(by omega), List.getElem?_eq_getElem _⟩
  have hg := mix_get hp (k := k) (by omega)
  rw [ha] at hg
  have hltt : k < t.coeffs.length := by omega
  have hle1 : k + 1 ≤ t.coeffs.length := by omega
  have hset := mix_set hp hltt (plusC_get m t.coeffs x.coeffs k a c ha hc)
  have hput := fun y => ints_put' (l := mix t.coeffs (plusC m t.coeffs x.coeffs) k) (k := k) (x := y) (by omega)
  simp only [go_sem, xP, xR, xS, h2, h6, h7, h28, h29, h30, hs6, hs7, hss, hlt, hc, hg, hltt, hle1, hml, ints_len, ↓hput, hset, n7s, n7s', n76, n76', ns, ns']
  exact ⟨by rw [wrap_succ _ (by omega)], hD.upd hbs⟩
 ·subst hk
  have hend : mix t.coeffs (plusC m t.coeffs x.coeffs) x.coeffs.length = (plusT t x m).coeffs := by
   rw [mix, ← plusC_past m t.coeffs x.coeffs x.coeffs.length (Nat.le_refl _), List.take_append_drop]
   rfl
  rw [hend] at hss
  simp only [go_sem, xP, xR, xS, h2, h6, h7, h28, h29, h30, hs6, hs7, hss, Nat.lt_irrefl, n7s, n7s', n76, n76', ns, ns']
  have hlen : (plusT t x m).coeffs.length = t.coeffs.length := plusC_len m t.coeffs x.coeffs
  rw [hlen]
  refine ⟨.agg (.cons (frz_own (c := t.coeffs.length) (by rw [upd_ne _ _ _ _ ns]; exact hss) (by rw [ints_len, hlen, Nat.mul_one]) hbs) (.cons (.refl _) .nil)), hD.upd hb6⟩
theorem f157 (n : Nat) (c : Int) (hn : Fits n) : PCalls Tryz.prog Γ 157 [int n, int c] (tmA ⟨List.replicate n 0, c⟩) := by
 have hA8 : (8 : Int) * n ≤ 140737488355328 := by omega
 have hA9 : (n : Int) ≤ 9223372036854775807 := by omega
 refine pcalls (ok157 Γ) fun σ => ?_
 simp only [go_sem, xP, xR, xS, Tryz.f157]
 intro b4 hb4
 simp only [go_sem, xP, xR, xS, hA8, hA9, ints_zeros']
 intro bs hbs
 obtain ⟨ns, hbs⟩ := un hbs
 have ns' : ¬ b4 = bs := fun e => ns e.symm
 simp only [go_sem, xP, xR, xS, hA8, hA9, ints_zeros', ns, ns', List.length_replicate]
 exact ⟨.agg (.cons (frz_own (c := n) (by simp only [upd, ns, ns', if_true, if_false, ints_zeros', Int.toNat_natCast]) (by simp [ints_len]) hbs) (.cons (.refl _) .nil)), by repeat (first | exact Drop.refl _ | assumption | refine Drop.upd ?_ (by assumption))⟩
def largeE (t : Tm) : Int := whenE (!decide (numbersE t = 0)) 4
theorem f159 (t : Tm) (hl : Fits t.coeffs.length) : PCalls Tryz.prog Γ 159 [tmA t] (int (largeE t)) := by
 refine pcalls (ok159 Γ) fun σ => ?_
 simp only [go_sem, xP, xR, xS, Tryz.f159]
 refine callB_use (f173 t hl) rfl ?_
 simp only [go_sem, xP, xR, xS]
 refine callB_use (f144 _ _) rfl ?_
 simp only [go_sem, xP, xR, xS]
 exact retP_eq rfl
def oppT (t : Tm) (n : Int) : Tm := plusT ⟨List.replicate t.coeffs.length 0, n⟩ t (-1)
theorem f169 (t : Tm) (n : Int) (hl : Fits t.coeffs.length) : PCalls Tryz.prog Γ 169 [tmA t, int n] (tmA (oppT t n)) := by
 refine pcalls (ok169 Γ) fun σ => ?_
 simp only [go_sem, xP, xR, xS, Tryz.f169]
 intro b hb
 simp only [go_sem, xP, xR, xS]
 refine dcallB_use (f157 t.coeffs.length n hl) rfl ?_
 simp only [go_sem, xP, xR, xS]
 refine callB_use (f158 ⟨List.replicate t.coeffs.length 0, n⟩ t (-1) (by simpa using hl) (by simp)) rfl ?_
 simp only [go_sem, xP, xR, xS]
 exact retP_drop (by repeat (first | exact Drop.refl _ | assumption | refine Drop.upd ?_ (by assumption))) (rfl)
def lessT (t : Tm) (n : Int) : Tm := plusT t ⟨[], n⟩ (-1)
theorem f253 (t : Tm) (n : Int) (hl : Fits t.coeffs.length) : PCalls Tryz.prog Γ 253 [tmA t, int n] (tmA (lessT t n)) := by
 refine pcalls (ok253 Γ) fun σ => ?_
 simp only [go_sem, xP, xR, xS, Tryz.f253]
 intro b hb
 simp only [go_sem, xP, xR, xS]
 refine callB_fz (f158 t ⟨[], n⟩ (-1) hl (Nat.zero_le _)) (.cons (.refl _) (.cons (.agg (.cons .nil (.cons (.refl _) .nil))) (.cons (.refl _) .nil))) ?_
 simp only [go_sem, xP, xR, xS]
 exact retP_drop (by repeat (first | exact Drop.refl _ | assumption | refine Drop.upd ?_ (by assumption))) (rfl)
def putT (terms : List Tm) : List Int → Nat → Tm → Option Tm
 | [], _, t => some t
 | c :: cs, i, t => match terms[i]? with
  | none => none
  | some x => if largeE (plusT t x c) = 0 then putT terms cs (i + 1) (plusT t x c) else none
theorem ers_upd (σ : Sig) (r : Nat) : ers σ r = upd σ r none := by funext i; rw [xS]; rfl
theorem Grow.neO {σ0 σ : Sig} {s n b : Nat} {a : AV} {cs : List AV} {o : Obj} (h : Grow σ0 σ s a cs n) (hb : σ b = some (.obj o)) : ∀ s1 o m, a ≠ .own b s1 o m := fun s1 o m e => by
 rcases h with ⟨h, _⟩ | ⟨b', c, h0, h1, h2, h3⟩
 ·rcases h with h | h <;> rw [h] at e <;> cases e
 ·rw [h0] at e
  cases e
  rw [h2] at hb
  cases hb
end Go.AL

namespace Go.AL
open Go.Proofs
abbrev WayT := Int × Bool
def wayV (k : WayT) : Value := .agg #[.int .i64 k.1, .bool k.2]
def wayK (k : WayT) : AV := .agg [.v (.int .i64 k.1), .v (.bool k.2)]
def mapW (l : List (WayT × AV)) : List (AV × AV) := l.map fun p => (wayK p.1, p.2)
def getW : List (WayT × AV) → WayT → Option AV
 | [], _ => none
 | p :: l, k => if k = p.1 then some p.2 else getW l k
theorem rep_way {w : World} {σ : Sig} {k : WayT} {v : Value} (h : Rep w σ (wayK k) v) : v = wayV k := by
 unfold wayK at h
 cases h with | agg h =>
 cases h with | cons h1 h => cases h with | cons h2 h => cases h with | nil =>
 cases h1; cases h2; rfl
theorem way_rep {w : World} {σ : Sig} {k : WayT} : Rep w σ (wayK k) (wayV k) := .agg (.cons (.v _) (.cons (.v _) .nil))
structure WayKey (P : Program) (k : TypeId) : Prop where
 und : ∃ fs, P.underlying k = some (.struct fs)
 eq : ∀ (w : World) (a b : WayT), (Op.equal k (wayV a) (wayV b)).run P w = .ok (decide (a = b)) w
 chk : ∀ (w : World) (em : Bool) (a : WayT), (Instr.checkKey em 10000 k (wayV a)).run P w = .ok () w
theorem ask_way {P : Program} {k : TypeId} (hk : WayKey P k) {w : World} {σ : Sig} (a : WayT) : ∀ (l : List (WayT × AV)) (ents : List MapEntry) (i : Nat), Reps w σ (l.map fun p => wayK p.1) (ents.map (·.key)) → Reps w σ (l.map (·.2)) (ents.map (·.val)) →
  match getW l a with
  | none => (Instr.findAsking k (wayV a) ents i).run P w = .ok none w
  | some x => ∃ j v, (Instr.findAsking k (wayV a) ents i).run P w = .ok (some (j, v)) w ∧ Rep w σ x v
 | [], [], i, _, _ => by simp [getW, Instr.findAsking]
 | [], _ :: _, i, h, _ => by cases h
 | _ :: _, [], i, h, _ => by cases h
 | p :: l, e :: ents, i, h, h2 => by
  cases h with | cons h hs =>
  cases h2 with | cons h2 hs2 =>
  have ih := ask_way hk a l ents (i + 1) hs hs2
  have hkey := rep_way h
  by_cases ha : a = p.1
  ·simp only [getW, if_pos ha]
   exact ⟨i, e.val, by simp [Instr.findAsking, hkey, hk.eq, ha], h2⟩
  ·simp only [getW, if_neg ha]
   have hf : (Instr.findAsking k (wayV a) (e :: ents) i).run P w = (Instr.findAsking k (wayV a) ents (i + 1)).run P w := by simp [Instr.findAsking, hkey, hk.eq, ha]
   rw [hf]
   exact ih
theorem find_way {P : Program} {k : TypeId} (hk : WayKey P k) {w : World} {σ : Sig} (a : WayT) (l : List (WayT × AV)) (ents : List MapEntry) (h : Reps w σ (l.map fun p => wayK p.1) (ents.map (·.key))) (h2 : Reps w σ (l.map (·.2)) (ents.map (·.val))) :
  match getW l a with
  | none => (Instr.findKey k (wayV a) ents).run P w = .ok none w
  | some x => ∃ j v, (Instr.findKey k (wayV a) ents).run P w = .ok (some (j, v)) w ∧ Rep w σ x v := by
 obtain ⟨fs, hu⟩ := hk.und
 have := ask_way hk a l ents 0 h h2
 cases ents with
 | nil =>
  cases l with
  | nil => simp [getW, Instr.findKey, run_underlying hu, Instr.findNow]
  | cons p l => cases h
 | cons e ents =>
  have hf : (Instr.findKey k (wayV a) (e :: ents)).run P w = (Instr.findAsking k (wayV a) (e :: ents) 0).run P w := by
   simp [Instr.findKey, run_underlying hu, Instr.findNow, Instr.sameNow]
  rw [hf]
  exact this
section
variable {P : Program} {Γ : Glob} {σ : Sig} {t k e : TypeId} {b : Nat} {l : List (WayT × AV)} {a : WayT} {K : AV → Sig → Prop}
theorem lookB_way (ht : P.underlying t = some (.map k e)) (hk : WayKey P k) {z : AV} (he : ∀ (w : World) (σ : Sig), ∃ v, (zeroValue e).run P w = .ok v w ∧ Rep w σ z v) (hb : σ b = some (.map (mapW l)))
  (hK : match getW l a with | some x => K (.tup [x, .v (.bool true)]) σ | none => K (.tup [z, .v (.bool false)]) σ) : lookB P Γ σ t true (.v (.map (some b))) (wayK a) K := by
 intro w vs rel hv
 cases hv with | cons h1 hv => cases hv with | cons h2 hv => cases hv with | nil =>
 cases h1
 obtain rfl := rep_way h2
 obtain ⟨_, ents, clock, hh, hks, hvs⟩ := rel.blk b _ hb
 have hf := find_way hk a l ents.toList (by simpa [mapW, Function.comp_def] using hks) (by simpa [mapW, Function.comp_def] using hvs)
 have hg : (getObj b).run P w = .ok (.map ents clock) w := by simp [getObj, Sem.run, hh]
 cases hl : getW l a with
 | some x =>
  rw [hl] at hf hK
  obtain ⟨j, v, hj, hr⟩ := hf
  refine ⟨.tuple #[v, .bool true], w, _, σ, ?_, .tup (.cons hr (.cons (.v _) .nil)), rel, Ext.refl _ _, hK⟩
  simp [Instr.lookup, run_underlying ht, hg, hk.chk, hj]
 | none =>
  rw [hl] at hf hK
  obtain ⟨v, hz, hr⟩ := he w σ
  refine ⟨.tuple #[v, .bool false], w, _, σ, ?_, .tup (.cons hr (.cons (.v _) .nil)), rel, Ext.refl _ _, hK⟩
  simp [Instr.lookup, run_underlying ht, hg, hk.chk, hf, hz]
theorem rlookB_way (ht : P.underlying t = some (.map k e)) (hk : WayKey P k) {z : AV} (he : ∀ (w : World) (σ : Sig), ∃ v, (zeroValue e).run P w = .ok v w ∧ Rep w σ z v) (hb : σ b = some (.map (mapW l)))
  (hK : match getW l a with | some x => K (.tup [x, .v (.bool true)]) σ | none => K (.tup [z, .v (.bool false)]) σ) : rlookB P Γ σ t true (.v (.map (some b))) (wayK a) K := by
 cases hl : getW l a with
 | some x =>
  rw [hl] at hK
  exact ⟨_, fun σ' hs K' hK' => lookB_way ht hk he (hs b _ hb) (by rw [hl]; exact hK'), hK⟩
 | none =>
  rw [hl] at hK
  exact ⟨_, fun σ' hs K' hK' => lookB_way ht hk he (hs b _ hb) (by rw [hl]; exact hK'), hK⟩
theorem mupB_way (ht : P.underlying t = some (.map k e)) (hk : WayKey P k) (hb : σ b = some (.map (mapW l))) (hn : getW l a = none) {x : AV}
  (hK : K (.v undef) (upd σ b (some (.map (mapW (l ++ [(a, x)])))))) : mupB P Γ σ t (.v (.map (some b))) (wayK a) x K := by
 intro w vs rel hv
 cases hv with | cons h1 hv => cases hv with | cons h2 hv => cases hv with | cons h3 hv => cases hv with | nil =>
 cases h1
 obtain rfl := rep_way h2
 rename_i v
 obtain ⟨hbl, ents, clock, hh, hks, hvs⟩ := rel.blk b _ hb
 have hf := find_way hk a l ents.toList (by simpa [mapW, Function.comp_def] using hks) (by simpa [mapW, Function.comp_def] using hvs)
 rw [hn] at hf
 have hg : (getObj b).run P w = .ok (.map ents clock) w := by simp [getObj, Sem.run, hh]
 let o : Obj := .map (ents.push { key := wayV a, val := v, born := clock }) (clock + 1)
 have hs : (setObj b o).run P w = .ok () (w.putObj b o) := by simp [setObj, Sem.run, hh, World.putObj, o]
 have hW : Wr w (w.putObj b o) b := ⟨World.putObj_size, fun k hk => World.putObj_heap_other hk, rfl, rfl, rfl⟩
 have eW := Ext.write (σ := σ) (x := .map (mapW (l ++ [(a, x)]))) hW ⟨_, hb, fun _ _ _ e => by cases e⟩
 have rW := rel.write (x := .map (mapW (l ++ [(a, x)]))) hW ⟨_, hb, fun _ _ _ e => by cases e⟩
  ⟨_, _, World.putObj_heap_same hbl, by
   have := (hks.ext eW).append (.cons (way_rep (k := a)) .nil)
   simpa [mapW, o] using this, by
   have := (hvs.ext eW).append (.cons (h3.ext eW) .nil)
   simpa [mapW, o] using this⟩
 refine ⟨undef, _, _, _, ?_, .v _, rW, eW, hK⟩
 simp [Instr.mapUpdate, run_underlying ht, hg, hk.chk, hf]
 simp [hs, o]
end
section
variable {P : Program} {t : TypeId} {f1 f2 : Field} {z1 z2 : List AV}
theorem eq_strW {w : World} {n : Nat} {a c : Int} {b d : Bool} (h : P.underlying t = some (.struct #[f1, f2])) (hs : P.stoodInHeld t = false)
  (hn1 : f1.name ≠ "_") (hn2 : f2.name ≠ "_") (ho1 : f1.offset = 0) (ho2 : f2.offset = 1) (hk1 : tkOf P f1.type = some ⟨false, 1, z1⟩) (hk2 : tkOf P f2.type = some ⟨false, 1, z2⟩)
  (hi1 : ∀ (a b : Int), (Op.equalIn n f1.type (.int .i64 a) (.int .i64 b)).run P w = .ok (a == b) w) (hi2 : ∀ (a b : Bool), (Op.equalIn n f2.type (.bool a) (.bool b)).run P w = .ok (a == b) w) :
  (Op.equalIn (n + 1) t (.agg #[.int .i64 a, .bool b]) (.agg #[.int .i64 c, .bool d])).run P w = .ok ((a == c) && (b == d)) w := by
 have hagg1 := run_isAgg_tk hk1
 have hagg2 := run_isAgg_tk hk2
 cases h1 : (a == c) <;> cases h2 : (b == d) <;>
  simp [Op.equalIn, run_underlying h, hs, hagg1, hagg2, part, hi1, hi2, h1, h2, hn1, hn2, ho1, ho2]
theorem chk_strW {w : World} {em : Bool} {n : Nat} {a : Int} {b : Bool} (h : P.underlying t = some (.struct #[f1, f2]))
  (hn1 : f1.name ≠ "_") (hn2 : f2.name ≠ "_") (ho1 : f1.offset = 0) (ho2 : f2.offset = 1) (hk1 : tkOf P f1.type = some ⟨false, 1, z1⟩) (hk2 : tkOf P f2.type = some ⟨false, 1, z2⟩)
  (hi1 : ∀ a : Int, (Instr.checkKey em n f1.type (.int .i64 a)).run P w = .ok () w) (hi2 : ∀ a : Bool, (Instr.checkKey em n f2.type (.bool a)).run P w = .ok () w) :
  (Instr.checkKey em (n + 1) t (.agg #[.int .i64 a, .bool b])).run P w = .ok () w := by
 have hagg1 := run_isAgg_tk hk1
 have hagg2 := run_isAgg_tk hk2
 simp [Instr.checkKey, run_underlying h, hagg1, hagg2, part, hi1, hi2, hn1, hn2, ho1, ho2]
theorem chk_int {w : World} {em : Bool} {n : Nat} {a : Int} (h : P.underlying t = some (.int .i64)) : (Instr.checkKey em (n + 1) t (.int .i64 a)).run P w = .ok () w := by simp [Instr.checkKey, run_underlying h]
theorem chk_bool {w : World} {em : Bool} {n : Nat} {a : Bool} (h : P.underlying t = some .bool) : (Instr.checkKey em (n + 1) t (.bool a)).run P w = .ok () w := by simp [Instr.checkKey, run_underlying h]
theorem wayKey (h : P.underlying t = some (.struct #[f1, f2])) (hs : P.stoodInHeld t = false)
  (hn1 : f1.name ≠ "_") (hn2 : f2.name ≠ "_") (ho1 : f1.offset = 0) (ho2 : f2.offset = 1) (hk1 : tkOf P f1.type = some ⟨false, 1, z1⟩) (hk2 : tkOf P f2.type = some ⟨false, 1, z2⟩)
  (he1 : P.underlying f1.type = some (.int .i64)) (he2 : P.underlying f2.type = some .bool) : WayKey P t := by
 refine ⟨⟨_, h⟩, fun w a b => ?_, fun w em a => chk_strW (n := 9999) h hn1 hn2 ho1 ho2 hk1 hk2 (fun a => chk_int (n := 9998) he1) (fun a => chk_bool (n := 9998) he2)⟩
 have e : decide (a = b) = ((a.1 == b.1) && (a.2 == b.2)) := by
  obtain ⟨i, x⟩ := a
  obtain ⟨j, y⟩ := b
  by_cases h1 : i = j <;> by_cases h2 : x = y <;> simp [h1, h2]
 rw [e]
 exact eq_strW (n := 9999) h hs hn1 hn2 ho1 ho2 hk1 hk2 (fun a b => run_equalIn_int w 9998 _ .i64 _ a b he1) (fun a b => run_equalIn_bool w 9998 _ a b he2)
end
theorem way229 : WayKey Tryz.prog 229 := wayKey (fieldsOf_some fs229) (by kernel_rfl) (by decide) (by decide) rfl rfl tk3 tk4 us3 us4
end Go.AL

namespace Go.AL
section
variable {P : Program} {Γ : Glob} {σ : Sig} {w : World}
structure AppM (P : Program) (t0 t1 : TypeId) (k : TK) (bytes : Nat) : Prop where
 slice : ∃ e i, P.underlying t0 = some (.slice e) ∧ tkOf P e = some k ∧ P.info? e = some i ∧ i.bytes = bytes
 src : P.underlying t1 = some (.int .i64)
 size : k.size ≠ 0
 zero : k.zero.length = k.size
 pos : 0 < bytes
theorem append_made {t0 t1 ty : TypeId} {k : TK} {bytes : Nat} (hT : AppM P t0 t1 k bytes) {n : Nat} (hsum : n * bytes ≤ 140737488355328) (h0 : 0 < n) :
  ∃ (d newCap : Nat) (rest : List Value) (el : TypeId), n ≤ newCap ∧ rest.length = newCap * k.size ∧ (Builtin.append_ #[t0, t1] ty #[.slice none 0 0, .int .i64 n]).run P w =
   .ok (.slice (some ⟨w.heap.size, 0, none⟩) n newCap) { atD w d with heap := w.heap.push (.cells rest.toArray el (0, 0)) } := by
 obtain ⟨e, i, h1, h2, h3, h4⟩ := hT.slice
 obtain ⟨z, hzr, hzz⟩ := run_zero_tk h2 w
 have hpos := hT.pos
 have hb0 : ¬ i.bytes = 0 := by omega
 have hfit : ¬ (281474976710656 < Builtin.nextslicecap n 0 * i.bytes) := by
  have := growslice_fits (old := 0) (bytes := i.bytes) (by omega : 0 < n) (by rw [h4]; exact hsum)
  omega
 have hnb : n ≤ 140737488355328 := Nat.le_trans (Nat.le_mul_of_pos_right n hpos) hsum
 have hi : (typeInfo e).run P w = .ok i w := by simp [typeInfo, h3]
 have hid : ∀ d, (typeInfo e).run P (atD w d) = .ok i (atD w d) := fun d => by simp [typeInfo, h3]
 have hzd : ∀ d, (zeroValue e).run P (atD w d) = .ok z (atD w d) := fun d => by
  obtain ⟨i', d', z', hi', _, hz', hk'⟩ := tkOf_some h2
  simp [zeroValue, typeInfo, hi'] at hzr ⊢
  rw [hz'] at hzr ⊢
  simpa using hzr
 have hzs : z.cells.size = k.size := by
  have := congrArg List.length hzz
  simp at this
  rw [← this, hT.zero]
 let q : Question := .appendCap n 0 e
 have hge : n ≤ q.cut (w.tape w.drawn q) := by simp [q, Question.cut]
 refine ⟨w.drawn + 1, q.cut (w.tape w.drawn q), (Builtin.zeroCells z.cells n).toList ++ (Builtin.zeroCells z.cells (q.cut (w.tape w.drawn q) - n)).toList, e, hge, ?_, ?_⟩
 ·rw [List.length_append, Array.length_toList, Array.length_toList, zeroCells_size, zeroCells_size, hzs, ← Nat.add_mul]
  congr 1
  omega
 ·have hwrap : IntKind.i64.wrap (n : Int) = n := wrap_nat n (by omega)
  have hneg : ¬ ((n : Int) < 0) := by omega
  have hbig : ¬ ((2 : Int) ^ 48 < (n : Int) * (i.bytes : Int)) := by
   rw [h4]
   have : ((n * bytes : Nat) : Int) ≤ 140737488355328 := by omega
   rw [Int.natCast_mul] at this
   omega
  have hmax : ¬ (IntKind.i64.max < (n : Int)) := by
   have : IntKind.i64.max = 9223372036854775807 := by decide
   omega
  have hns : ¬ n * k.size = 0 := Nat.mul_ne_zero (by omega) hT.size
  have hid' : (typeInfo e).run P w.drew = .ok i w.drew := hid (w.drawn + 1)
  have hzd' : (zeroValue e).run P w.drew = .ok z w.drew := hzd (w.drawn + 1)
  have h0' : ¬ n ≤ 0 := by omega
  have hn0 : ¬ n = 0 := by omega
  have has : (asInt (.int .i64 (n : Int))).run P w = .ok (n : Int) w := by simp [asInt, asIntOf]
  have hmx : max (n : Int) 0 = n := by omega
  have hmx2 : ¬ ((9223372036854775807 : Int) < n) := by omega
  have hb48 : ¬ ((281474976710656 : Int) < (n : Int) * (i.bytes : Int)) := hbig
  simp only [Builtin.append_, Sem.run_bind, run_underlying h1, Result.andThen_ok, run_sizeOf_tk h2, run_underlying hT.src, Sem.run_pure, Bool.false_eq_true, if_false, if_true, Sem.run_ite, hi, List.getElem?_toArray, List.getElem?_cons_zero, List.getElem?_cons_succ]
  simp [hb0, hfit, hi, hid', hzd', newRow, Question.forced, q, hwrap, hneg, hbig, hmax, hns, has, h0', Builtin.firstCells, hn0, hmx, hmx2, hb48]
  have ea : ∀ X Y : Array Value, (X.toList ++ Y.toList).toArray = X ++ Y := fun X Y => by apply Array.ext'; simp
  rw [ea]
  rfl
theorem appM {P : Program} {t0 t1 e : TypeId} {k : TK} {bytes : Nat} (h : elemOf P t0 = some (none, e)) (hk : tkOf P e = some k) (hb : P.bytesOf e = bytes) (h1 : P.underlying t1 = some (.int .i64)) (hs : k.size ≠ 0) (hz : k.zero.length = k.size) (hp : 0 < bytes) : AppM P t0 t1 k bytes := by
 refine ⟨?_, h1, hs, hz, hp⟩
 obtain ⟨i, d, z, hi, hd, hz, rfl⟩ := tkOf_some hk
 refine ⟨e, i, elemOf_slice h, hk, hi, ?_⟩
 rw [← hb]
 simp [Program.bytesOf, hi]
theorem appB_make {t0 t1 : TypeId} {k : TK} {bytes : Nat} (hT : AppM P t0 t1 k bytes) {n : Nat} (hsum : n * bytes ≤ 140737488355328) (h0 : 0 < n) {K : AV → Sig → Prop}
  (hK : ∀ b c, σ b = none → n ≤ c → K (.own b k.size 0 n) (upd σ b (some (.row [] k.size c)))) : appB P Γ σ t0 t1 (.v (.slice none 0 0)) (.v (.int .i64 n)) K := by
 intro ty w vs r hv
 cases hv with | cons h_s hv => cases hv with | cons h_x hv => cases hv with | nil =>
 cases h_s
 cases h_x
 obtain ⟨d, newCap, rest, el, h2, h3, h4⟩ := append_made (P := P) (w := w) (t0 := t0) (t1 := t1) (ty := ty) hT hsum h0
 have rD : Rel Γ (atD w d) σ := r.of_heap rfl rfl rfl rfl
 have eD : Ext w σ (atD w d) σ := Ext.of_heap rfl rfl rfl rfl
 have hsz : (atD w d).heap.size = w.heap.size := rfl
 have eA := Ext.alloc (w := atD w d) (σ := σ) (.cells rest.toArray el (0, 0)) (.row [] k.size newCap) rD.fresh
 have hrow : BlkRep { atD w d with heap := (atD w d).heap.push (.cells rest.toArray el (0, 0)) } (upd σ w.heap.size (some (.row [] k.size newCap))) w.heap.size (.row [] k.size newCap) :=
  ⟨[], rest, el, by simp, .nil, by simpa using h3⟩
 have rA := rD.alloc (.cells rest.toArray el (0, 0)) (.row [] k.size newCap) hrow
 refine ⟨_, _, _, _, h4, ?_, rA, eD.trans eA, hK w.heap.size newCap r.fresh h2⟩
 refine .own (by simp) h2 (fun _ => by simp) (fun cs s' c hc => ?_)
 rw [hsz, upd_same] at hc
 cases hc
 exact ⟨rfl, by omega⟩
end
end Go.AL
