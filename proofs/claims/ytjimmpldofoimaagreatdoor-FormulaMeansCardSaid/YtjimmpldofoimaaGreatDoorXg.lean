/- The laws' examples of chapter 10. -/
import Derived.Test.YtjimmpldofoimaaGreatDoorXf
open Nat renaming reduceEqDiff → xQ, reduceAdd → xA, reduceMul → xM, reduceLeDiff → xL
open Int renaming reduceLT → xT, reduceLE → xE, reduceToNat → xN
open Go.AL renaming retPost_one → xP, retPost_oneN → xR, ers_at' → xS
set_option linter.unusedVariables false
set_option linter.unusedSimpArgs false
namespace Go.AL
open Go.Proofs
variable {Γ : Glob}
attribute [local irreducible] codeW opsW dopsW
def bothF : Fm := ⟨2, [⟨0, ⟨[1, -1], 0⟩, []⟩, ⟨1, ⟨[0, 1], -3⟩, []⟩, ⟨2, ⟨[], 0⟩, [1]⟩, ⟨3, ⟨[], 0⟩, [0, 2]⟩]⟩
theorem both_fit : Fits bothF.nodes.length ∧ ∀ n ∈ bothF.nodes, NdFit n := by
  refine ⟨by decide, fun n hn => ?_⟩
  simp only [bothF, List.mem_cons, List.not_mem_nil, or_false] at hn
  rcases hn with rfl | rfl | rfl | rfl <;> exact ⟨by decide, by decide⟩
theorem a131 : PCalls Tryz.prog Γ 131 [] (fmA bothF) := f131
theorem a41 (hG : Γ 0 = some sortsT) (vs : List Int) (b : Bool) (hv : Fits vs.length) (h1 : holdsE bothF vs = 0) (h2 : holdsB bothF vs = b) : PCalls Tryz.prog Γ 41 [fmA bothF, slI vs] (.tup [.v (.bool b), int 0]) := by
  have := f41 hG bothF vs both_fit.1 both_fit.2 hv
  rw [h1, h2, if_pos rfl] at this
  exact this
def cA : List (List Tm) := [[⟨[1, -1], 0⟩, ⟨[0, 1], -4⟩], [⟨[1, -1], 0⟩, ⟨[0, -1], 2⟩]]
def cB : List (List Tm) := [[⟨[-1, 1], -1⟩], [⟨[0, 1], -3⟩, ⟨[0, -1], 3⟩]]
def oppB : Fm := ⟨2, [⟨0, ⟨[1, -1], 0⟩, []⟩, ⟨1, ⟨[0, 1], -3⟩, []⟩, ⟨2, ⟨[], 0⟩, [1]⟩, ⟨3, ⟨[], 0⟩, [0, 2]⟩, ⟨2, ⟨[], 0⟩, [3]⟩]⟩
def putW : Fm := ⟨1, [⟨0, ⟨[1], -1⟩, []⟩, ⟨1, ⟨[1], -2⟩, []⟩, ⟨2, ⟨[], 0⟩, [1]⟩, ⟨3, ⟨[], 0⟩, [0, 2]⟩]⟩
theorem opp_fit : Fits oppB.nodes.length ∧ ∀ n ∈ oppB.nodes, NdFit n := by
  refine ⟨by decide, fun n hn => ?_⟩
  simp only [oppB, List.mem_cons, List.not_mem_nil, or_false] at hn
  rcases hn with rfl | rfl | rfl | rfl | rfl <;> exact ⟨by decide, by decide⟩
theorem put_fit : Fits putW.nodes.length ∧ ∀ n ∈ putW.nodes, NdFit n := by
  refine ⟨by decide, fun n hn => ?_⟩
  simp only [putW, List.mem_cons, List.not_mem_nil, or_false] at hn
  rcases hn with rfl | rfl | rfl | rfl <;> exact ⟨by decide, by decide⟩
theorem cases_both : casesR bothF = (cA, 0) := by kernel_rfl
theorem cases_opp : casesR oppB = (cB, 0) := by kernel_rfl
theorem opp_both : oppE bothF = 0 ∧ oppF' bothF = oppB := ⟨by kernel_rfl, by kernel_rfl⟩
theorem put_both : putR bothF [⟨[2], 0⟩, ⟨[1], 1⟩] = (putW, 0) := by kernel_rfl
theorem rng_ex : rangedP ⟨[2, -3], 1⟩ [⟨0, 5⟩, ⟨-1, 2⟩] = ⟨-5, 14⟩ ∧ rangedE ⟨[2, -3], 1⟩ [⟨0, 5⟩, ⟨-1, 2⟩] = 0 := ⟨by kernel_rfl, by kernel_rfl⟩
theorem a49 (hG : Γ 0 = some sortsT) (hG2 : Γ 2 = some [int 0, int 0]) : PCalls Tryz.prog Γ 49 [fmA bothF] (.tup [slC cA, int 0]) := by
  have := f49 hG hG2 bothF both_fit.1 both_fit.2
  rw [cases_both] at this
  exact this
theorem a49' (hG : Γ 0 = some sortsT) (hG2 : Γ 2 = some [int 0, int 0]) : PCalls Tryz.prog Γ 49 [fmA oppB] (.tup [slC cB, int 0]) := by
  have := f49 hG hG2 oppB opp_fit.1 opp_fit.2
  rw [cases_opp] at this
  exact this
theorem a65 (hG : Γ 0 = some sortsT) : PCalls Tryz.prog Γ 65 [fmA bothF] (.tup [fmA oppB, int 0]) := by
  have := f65 hG bothF both_fit.1 both_fit.2
  rw [opp_both.1, if_pos rfl, opp_both.2] at this
  exact this
theorem a53 (hG : Γ 0 = some sortsT) : PCalls Tryz.prog Γ 53 [fmA bothF, slT [⟨[2], 0⟩, ⟨[1], 1⟩]] (.tup [fmA putW, int 0]) := by
  have := f53 hG bothF [⟨[2], 0⟩, ⟨[1], 1⟩] both_fit.1 both_fit.2 (by decide) (fun t ht => by
    simp only [List.mem_cons, List.not_mem_nil, or_false] at ht
    rcases ht with rfl | rfl <;> exact (by decide))
  rw [put_both] at this
  exact this
theorem a59 : PCalls Tryz.prog Γ 59 [tmA ⟨[2, -3], 1⟩, slR [⟨0, 5⟩, ⟨-1, 2⟩]] (.tup [rgA ⟨-5, 14⟩, int 0]) := by
  have := f59 (Γ := Γ) ⟨[2, -3], 1⟩ [⟨0, 5⟩, ⟨-1, 2⟩] (by decide) (by decide)
  rw [rng_ex.1, rng_ex.2] at this
  exact this
theorem a110 : PCalls Tryz.prog Γ 110 [fmA putW, fmA putW] (.v (.bool true)) := by
  have := f110 (Γ := Γ) putW putW put_fit.1 put_fit.2
  simpa using this
theorem a51 (c : List (List Tm)) (h : Fits c.length ∧ ∀ x ∈ c, Fits x.length ∧ ∀ t ∈ x, Fits t.coeffs.length) : PCalls Tryz.prog Γ 51 [slC c, slC c] (.v (.bool true)) := by
  have := f51 (Γ := Γ) c c h.1 h.2
  simpa using this
def bPrint : ByteArray := ⟨#[118, 97, 114, 115, 32, 50, 10, 103, 101, 32, 49, 32, 45, 49, 32, 48, 10, 101, 113, 32, 48, 32, 49, 32, 45, 51, 10, 110, 111, 116, 32, 49, 10, 97, 110, 100, 32, 48, 32, 50, 10]⟩
theorem dec1 (n : Nat) (h : n < 10) : Lib.decDigits n = [UInt8.ofNat (48 + n)] := by rw [Lib.decDigits, dif_pos h]
theorem it0 : Lib.itoa 0 = [48] := by rw [Lib.itoa, if_neg (by decide)]; exact dec1 0 (by decide)
theorem it1 : Lib.itoa 1 = [49] := by rw [Lib.itoa, if_neg (by decide)]; exact dec1 1 (by decide)
theorem it2 : Lib.itoa 2 = [50] := by rw [Lib.itoa, if_neg (by decide)]; exact dec1 2 (by decide)
theorem itm1 : Lib.itoa (-1) = [45, 49] := by rw [Lib.itoa, if_pos (by decide)]; exact congrArg _ (dec1 1 (by decide))
theorem itm3 : Lib.itoa (-3) = [45, 51] := by rw [Lib.itoa, if_pos (by decide)]; exact congrArg _ (dec1 3 (by decide))
theorem print_both : printF bothF = bPrint := by
  have e0 : itoaP 0 = ⟨#[48]⟩ := by rw [itoaP, it0]
  have e1 : itoaP 1 = ⟨#[49]⟩ := by rw [itoaP, it1]
  have e2 : itoaP 2 = ⟨#[50]⟩ := by rw [itoaP, it2]
  have m1 : itoaP (-1) = ⟨#[45, 49]⟩ := by rw [itoaP, itm1]
  have m3 : itoaP (-3) = ⟨#[45, 51]⟩ := by rw [itoaP, itm3]
  have h1 : lineN ⟨0, ⟨[1, -1], 0⟩, []⟩ = [103, 101, 32, 49, 32, 45, 49, 32, 48, 10] := by
    have e : lineN ⟨0, ⟨[1, -1], 0⟩, []⟩ = (lineF bGe [1, -1, 0]).data.toList := rfl
    have e' : lineF bGe [1, -1, 0] = joinP [bGe, ⟨#[49]⟩, ⟨#[45, 49]⟩, ⟨#[48]⟩] bSp ++ bNl := by rw [lineF]; simp only [List.map_cons, List.map_nil, e0, e1, e2, m1, m3]
    rw [e, e']
    rfl
  have h2 : lineN ⟨1, ⟨[0, 1], -3⟩, []⟩ = [101, 113, 32, 48, 32, 49, 32, 45, 51, 10] := by
    have e : lineN ⟨1, ⟨[0, 1], -3⟩, []⟩ = (lineF bEq [0, 1, -3]).data.toList := rfl
    have e' : lineF bEq [0, 1, -3] = joinP [bEq, ⟨#[48]⟩, ⟨#[49]⟩, ⟨#[45, 51]⟩] bSp ++ bNl := by rw [lineF]; simp only [List.map_cons, List.map_nil, e0, e1, e2, m1, m3]
    rw [e, e']
    rfl
  have h3 : lineN ⟨2, ⟨[], 0⟩, [1]⟩ = [110, 111, 116, 32, 49, 10] := by
    have e : lineN ⟨2, ⟨[], 0⟩, [1]⟩ = (lineF bNot [1]).data.toList := rfl
    have e' : lineF bNot [1] = joinP [bNot, ⟨#[49]⟩] bSp ++ bNl := by rw [lineF]; simp only [List.map_cons, List.map_nil, e0, e1, e2, m1, m3]
    rw [e, e']
    rfl
  have h4 : lineN ⟨3, ⟨[], 0⟩, [0, 2]⟩ = [97, 110, 100, 32, 48, 32, 50, 10] := by
    have e : lineN ⟨3, ⟨[], 0⟩, [0, 2]⟩ = (lineF bAnd [0, 2]).data.toList := rfl
    have e' : lineF bAnd [0, 2] = joinP [bAnd, ⟨#[48]⟩, ⟨#[50]⟩] bSp ++ bNl := by rw [lineF]; simp only [List.map_cons, List.map_nil, e0, e1, e2, m1, m3]
    rw [e, e']
    rfl
  have h0 : (lineF bVars [2]).data.toList = [118, 97, 114, 115, 32, 50, 10] := by
    rw [lineF]
    simp only [List.map_cons, List.map_nil, e2]
    kernel_rfl
  have hv : bothF.vars = 2 := rfl
  rw [printF, printL, hv, h0]
  simp only [bothF, List.flatMap_cons, List.flatMap_nil, h1, h2, h3, h4]
  rfl
theorem a106 (hG : Γ 0 = some sortsT) (hG5 : Γ 5 = some powT) : PCalls Tryz.prog Γ 106 [fmA bothF] (.tup [str bPrint, int 0]) := by
  have h := f106 hG hG5 bothF both_fit.1 both_fit.2
  have hc : checkE bothF = 0 := by kernel_rfl
  rw [hc, if_pos rfl, print_both] at h
  exact h
end Go.AL

/- awake of chapter 10. -/
set_option linter.unusedVariables false
set_option linter.unusedSimpArgs false
namespace Go.AL
open Go.Proofs
variable {Γ : Glob}
attribute [local irreducible] codeW opsW dopsW
set_option maxHeartbeats 2000000 in
set_option maxRecDepth 20000 in
theorem f40 (hG : Γ 0 = some sortsT) (hG2 : Γ 2 = some [int 0, int 0]) (hG5 : Γ 5 = some powT) : PCalls Tryz.prog Γ 40 [] (.v (.bool true)) := by
  refine pcalls (ok40 Γ) fun σ => ?_
  simp only [go_sem, xQ, ↓reduceIte, xA, xM, xL, xT, xE, xN, xP, xR, xS, Tryz.f40]
  refine callB_use (a131) rfl ?_
  simp only [go_sem, xQ, ↓reduceIte, xA, xM, xL, xT, xE, xN, xP, xR, xS]
  refine callB_use (a41 hG [5, 4] true (by decide) (by kernel_rfl) (by kernel_rfl)) rfl ?_
  simp only [go_sem, xQ, ↓reduceIte, xA, xM, xL, xT, xE, xN, xP, xR, xS]
  refine callB_use (a131) rfl ?_
  simp only [go_sem, xQ, ↓reduceIte, xA, xM, xL, xT, xE, xN, xP, xR, xS]
  refine callB_use (a41 hG [2, 2] true (by decide) (by kernel_rfl) (by kernel_rfl)) rfl ?_
  simp only [go_sem, xQ, ↓reduceIte, xA, xM, xL, xT, xE, xN, xP, xR, xS]
  refine callB_use (a131) rfl ?_
  simp only [go_sem, xQ, ↓reduceIte, xA, xM, xL, xT, xE, xN, xP, xR, xS]
  refine callB_use (a41 hG [5, 3] false (by decide) (by kernel_rfl) (by kernel_rfl)) rfl ?_
  simp only [go_sem, xQ, ↓reduceIte, xA, xM, xL, xT, xE, xN, xP, xR, xS]
  refine callB_use (a131) rfl ?_
  simp only [go_sem, xQ, ↓reduceIte, xA, xM, xL, xT, xE, xN, xP, xR, xS]
  refine callB_use (a41 hG [1, 2] false (by decide) (by kernel_rfl) (by kernel_rfl)) rfl ?_
  simp only [go_sem, xQ, ↓reduceIte, xA, xM, xL, xT, xE, xN, xP, xR, xS]
  refine callB_use (a131) rfl ?_
  simp only [go_sem, xQ, ↓reduceIte, xA, xM, xL, xT, xE, xN, xP, xR, xS]
  refine callB_use (a49 hG hG2) rfl ?_
  simp only [go_sem, xQ, ↓reduceIte, xA, xM, xL, xT, xE, xN, xP, xR, xS]
  refine callB_use (a131) rfl ?_
  simp only [go_sem, xQ, ↓reduceIte, xA, xM, xL, xT, xE, xN, xP, xR, xS]
  refine callB_use (a65 hG) rfl ?_
  simp only [go_sem, xQ, ↓reduceIte, xA, xM, xL, xT, xE, xN, xP, xR, xS]
  intro b11 hb11
  simp only [go_sem, xQ, ↓reduceIte, xA, xM, xL, xT, xE, xN, xP, xR, xS]
  refine callB_use (a49' hG hG2) rfl ?_
  simp only [go_sem, xQ, ↓reduceIte, xA, xM, xL, xT, xE, xN, xP, xR, xS]
  refine callB_use (a131) rfl ?_
  simp only [go_sem, xQ, ↓reduceIte, xA, xM, xL, xT, xE, xN, xP, xR, xS]
  refine callB_use (f132 0 [2]) rfl ?_
  simp only [go_sem, xQ, ↓reduceIte, xA, xM, xL, xT, xE, xN, xP, xR, xS]
  refine callB_use (f132 1 [1]) rfl ?_
  simp only [go_sem, xQ, ↓reduceIte, xA, xM, xL, xT, xE, xN, xP, xR, xS]
  refine callB_use (a53 hG) rfl ?_
  simp only [go_sem, xQ, ↓reduceIte, xA, xM, xL, xT, xE, xN, xP, xR, xS]
  intro b15 hb15
  obtain ⟨n1, hb15⟩ := un hb15
  have n1' : ¬ b11 = b15 := fun e => n1 e.symm
  simp only [go_sem, xQ, ↓reduceIte, xA, xM, xL, xT, xE, xN, xP, xR, xS, n1, n1']
  refine callB_use (f132 1 [2, -3]) rfl ?_
  simp only [go_sem, xQ, ↓reduceIte, xA, xM, xL, xT, xE, xN, xP, xR, xS, n1, n1']
  refine callB_use (a59) rfl ?_
  simp only [go_sem, xQ, ↓reduceIte, xA, xM, xL, xT, xE, xN, xP, xR, xS, n1, n1']
  intro b17 hb17
  obtain ⟨n2, hb17⟩ := un hb17
  obtain ⟨n3, hb17⟩ := un hb17
  have n2' : ¬ b15 = b17 := fun e => n2 e.symm
  have n3' : ¬ b11 = b17 := fun e => n3 e.symm
  simp only [go_sem, xQ, ↓reduceIte, xA, xM, xL, xT, xE, xN, xP, xR, xS, n1, n1', n2, n2', n3, n3']
  refine callB_use (a131) rfl ?_
  simp only [go_sem, xQ, ↓reduceIte, xA, xM, xL, xT, xE, xN, xP, xR, xS, n1, n1', n2, n2', n3, n3']
  refine callB_use (a106 hG hG5) rfl ?_
  simp only [go_sem, xQ, ↓reduceIte, xA, xM, xL, xT, xE, xN, xP, xR, xS, n1, n1', n2, n2', n3, n3']
  have hw0 : IntKind.i64.wrap 0 = 0 := by decide
  simp only [go_sem, xQ, ↓reduceIte, xA, xM, xL, xT, xE, xN, xP, xR, xS, n1, n1', n2, n2', n3, n3', Int.add_zero, hw0, str, bPrint, beq_self_eq_true, eq_self_iff_true]
  refine callB_use (f133 (-1)) rfl ?_
  simp only [go_sem, xQ, ↓reduceIte, xA, xM, xL, xT, xE, xN, xP, xR, xS, n1, n1', n2, n2', n3, n3']
  refine callB_use (f133 (-2)) rfl ?_
  simp only [go_sem, xQ, ↓reduceIte, xA, xM, xL, xT, xE, xN, xP, xR, xS, n1, n1', n2, n2', n3, n3']
  intro b22 hb22
  obtain ⟨n4, hb22⟩ := un hb22
  obtain ⟨n5, hb22⟩ := un hb22
  obtain ⟨n6, hb22⟩ := un hb22
  have n4' : ¬ b17 = b22 := fun e => n4 e.symm
  have n5' : ¬ b15 = b22 := fun e => n5 e.symm
  have n6' : ¬ b11 = b22 := fun e => n6 e.symm
  simp only [go_sem, xQ, ↓reduceIte, xA, xM, xL, xT, xE, xN, xP, xR, xS, n1, n1', n2, n2', n3, n3', n4, n4', n5, n5', n6, n6']
  refine dcallB_use (f111 putW put_fit.1) rfl ?_
  simp only [go_sem, xQ, ↓reduceIte, xA, xM, xL, xT, xE, xN, xP, xR, xS, n1, n1', n2, n2', n3, n3', n4, n4', n5, n5', n6, n6']
  refine callB_fz a110 (.cons (.refl _) (.cons (.agg (.cons (.refl _) (.cons (.sl (by repeat (first | exact FzL.nil | exact FzL.refl _ | refine FzL.cons (by first | exact Fz.refl _ | exact Fz.nil) ?_))) .nil))) .nil)) ?_
  simp only [go_sem, xQ, ↓reduceIte, xA, xM, xL, xT, xE, xN, xP, xR, xS, n1, n1', n2, n2', n3, n3', n4, n4', n5, n5', n6, n6']
  refine callB_use (f134 0 [1, -1]) rfl ?_
  simp only [go_sem, xQ, ↓reduceIte, xA, xM, xL, xT, xE, xN, xP, xR, xS, n1, n1', n2, n2', n3, n3', n4, n4', n5, n5', n6, n6']
  refine callB_use (f134 (-4) [0, 1]) rfl ?_
  simp only [go_sem, xQ, ↓reduceIte, xA, xM, xL, xT, xE, xN, xP, xR, xS, n1, n1', n2, n2', n3, n3', n4, n4', n5, n5', n6, n6']
  refine callB_use (f134 0 [1, -1]) rfl ?_
  simp only [go_sem, xQ, ↓reduceIte, xA, xM, xL, xT, xE, xN, xP, xR, xS, n1, n1', n2, n2', n3, n3', n4, n4', n5, n5', n6, n6']
  refine callB_use (f134 2 [0, -1]) rfl ?_
  simp only [go_sem, xQ, ↓reduceIte, xA, xM, xL, xT, xE, xN, xP, xR, xS, n1, n1', n2, n2', n3, n3', n4, n4', n5, n5', n6, n6']
  have hA : Fits cA.length ∧ ∀ x ∈ cA, Fits x.length ∧ ∀ t ∈ x, Fits t.coeffs.length := by decide
  have hB : Fits cB.length ∧ ∀ x ∈ cB, Fits x.length ∧ ∀ t ∈ x, Fits t.coeffs.length := by decide
  refine callB_use (a51 cA hA) rfl ?_
  simp only [go_sem, xQ, ↓reduceIte, xA, xM, xL, xT, xE, xN, xP, xR, xS, n1, n1', n2, n2', n3, n3', n4, n4', n5, n5', n6, n6']
  refine callB_use (f134 (-1) [-1, 1]) rfl ?_
  simp only [go_sem, xQ, ↓reduceIte, xA, xM, xL, xT, xE, xN, xP, xR, xS, n1, n1', n2, n2', n3, n3', n4, n4', n5, n5', n6, n6']
  refine callB_use (f134 (-3) [0, 1]) rfl ?_
  simp only [go_sem, xQ, ↓reduceIte, xA, xM, xL, xT, xE, xN, xP, xR, xS, n1, n1', n2, n2', n3, n3', n4, n4', n5, n5', n6, n6']
  refine callB_use (f134 3 [0, -1]) rfl ?_
  simp only [go_sem, xQ, ↓reduceIte, xA, xM, xL, xT, xE, xN, xP, xR, xS, n1, n1', n2, n2', n3, n3', n4, n4', n5, n5', n6, n6']
  refine callB_use (a51 cB hB) rfl ?_
  simp only [go_sem, xQ, ↓reduceIte, xA, xM, xL, xT, xE, xN, xP, xR, xS, n1, n1', n2, n2', n3, n3', n4, n4', n5, n5', n6, n6']
  exact retP_drop (by repeat (first | exact Drop.refl _ | assumption | refine Drop.upd ?_ (by assumption))) rfl
end Go.AL
