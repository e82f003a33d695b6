import Derived.Test.YtjimmpldofoimaaGreatDoorLa
import Derived.Test.YtjimmpldofoimaaGreatDoorSc
import Derived.Test.YtjimmpldofoimaaGreatDoorSd
import Derived.Test.YtjimmpldofoimaaGreatDoorSe
import Derived.Test.YtjimmpldofoimaaGreatDoorWb
import Derived.Test.YtjimmpldofoimaaGreatDoorWc
import Derived.Test.YtjimmpldofoimaaGreatDoorWd
import Derived.Test.YtjimmpldofoimaaGreatDoorWh
import Derived.Test.YtjimmpldofoimaaGreatDoorWl
import Derived.Test.YtjimmpldofoimaaGreatDoorXn
import Derived.Test.YtjimmpldofoimaaGreatDoorXq
open Go.AL renaming retPost_one → xP, retPost_oneN → xR, ers_at' → xS
set_option linter.unusedVariables false
set_option linter.unusedSimpArgs false
namespace Go.AL
open Go.Proofs
inductive Rch (p : List St) : Nat → Prop
 | root : Rch p (p.length - 1)
 | lo {i : Nat} {s : St} : Rch p i → p[i]? = some s → s.leaf = false → Rch p s.k0.toNat
 | hi {i : Nat} {s : St} : Rch p i → p[i]? = some s → s.leaf = false → Rch p s.k1.toNat
theorem Rch.lt {p : List St} {m : Nat} (hok : okSteps p m) (hne : p ≠ []) : ∀ {i : Nat}, Rch p i → i < p.length := by
 intro i h
 induction h with
 | root => have := List.length_pos_iff.2 hne; omega
 | lo h1 h2 h3 ih => obtain ⟨v, a, b, _, _, ha, hai, hb, hbi⟩ := hok _ _ h2 h3; omega
 | hi h1 h2 h3 ih => obtain ⟨v, a, b, _, _, ha, hai, hb, hbi⟩ := hok _ _ h2 h3; omega
def MarkOk (p : List St) (mk : List Bool) (i : Nat) : Prop := mk.length = p.length ∧ (∀ j, mk[j]? = some true → Rch p j) ∧ mk[p.length - 1]? = some true ∧ ∀ k s, i ≤ k → Rch p k → p[k]? = some s → s.leaf = false → mk[s.k0.toNat]? = some true ∧ mk[s.k1.toNat]? = some true
theorem MarkOk.here {p : List St} {mk : List Bool} {i : Nat} {m : Nat} (hok : okSteps p m) (hne : p ≠ []) (h : MarkOk p mk (i + 1)) (hi : i < p.length) : Rch p i ↔ mk[i]? = some true := by
 obtain ⟨h1, h2, h3, h4⟩ := h
 refine ⟨fun hr => ?_, h2 i⟩
 cases hr with
 | root => exact h3
 | lo hk hs hl =>
  obtain ⟨v, a, b, _, _, ha, hai, hb, hbi⟩ := hok _ _ hs hl
  exact (h4 _ _ (by omega) hk hs hl).1
 | hi hk hs hl =>
  obtain ⟨v, a, b, _, _, ha, hai, hb, hbi⟩ := hok _ _ hs hl
  exact (h4 _ _ (by omega) hk hs hl).2
theorem MarkOk.skip {p : List St} {mk : List Bool} {i : Nat} {s : St} (h : MarkOk p mk (i + 1)) (hs : p[i]? = some s) (hn : ¬ Rch p i ∨ s.leaf = true) : MarkOk p mk i := by
 obtain ⟨h1, h2, h3, h4⟩ := h
 refine ⟨h1, h2, h3, fun k s' hk hr hp hl => ?_⟩
 by_cases e : k = i
 ·subst e
  rw [hs] at hp
  cases hp
  rcases hn with hn | hn
  ·exact absurd hr hn
  ·rw [hl] at hn; cases hn
 ·exact h4 k s' (by omega) hr hp hl
theorem MarkOk.mark {p : List St} {mk : List Bool} {i : Nat} {s : St} {m : Nat} (hok : okSteps p m) (h : MarkOk p mk (i + 1)) (hs : p[i]? = some s) (hr : Rch p i) (hl : s.leaf = false) : MarkOk p ((mk.set s.k0.toNat true).set s.k1.toNat true) i := by
 obtain ⟨h1, h2, h3, h4⟩ := h
 obtain ⟨v, a, b, _, _, ha, hai, hb, hbi⟩ := hok _ _ hs hl
 have hil := lt_of_getElem? hs
 have keep : ∀ j, mk[j]? = some true → ((mk.set s.k0.toNat true).set s.k1.toNat true)[j]? = some true := fun j hj => by
  have hjl := lt_of_getElem? hj
  rw [List.getElem?_set, List.getElem?_set]
  split
  ·rw [if_pos (by simpa using by omega)]
  ·split
   ·rw [if_pos (by omega)]
   ·exact hj
 refine ⟨by simp [h1], fun j hj => ?_, keep _ h3, fun k s' hk hr' hp hl' => ?_⟩
 ·rw [List.getElem?_set, List.getElem?_set] at hj
  split at hj
  ·rename_i e; rw [← e]; exact .hi hr hs hl
  ·split at hj
   ·rename_i e; rw [← e]; exact .lo hr hs hl
   ·exact h2 j hj
 ·by_cases e : k = i
  ·subst e
   rw [hs] at hp
   cases hp
   constructor
   ·rw [List.getElem?_set]
    split
    ·rw [if_pos (by simp; omega)]
    ·rw [List.getElem?_set, if_pos rfl, if_pos (by omega)]
   ·rw [List.getElem?_set, if_pos rfl, if_pos (by simp; omega)]
  ·obtain ⟨x, y⟩ := h4 k s' (by omega) hr' hp hl'
   exact ⟨keep _ x, keep _ y⟩
def bLeafL : List UInt8 := [108, 101, 97, 102]
def bSplitL : List UInt8 := [115, 112, 108, 105, 116]
def st0 : St := ⟨false, [], 0, 0, 0, 0⟩
noncomputable def stO (w : List UInt8) (W : List (List UInt8)) : Option St := match intsO 10 W with
 | none => none
 | some l => if w = bLeafL then some ⟨true, l, 0, 0, 0, 0⟩ else if w = bSplitL then (match l with
  | [a, b, c, d] => some ⟨false, [], a, b, c, d⟩
  | _ => none) else none
theorem stO_none {w : List UInt8} {W : List (List UInt8)} (h : intsO 10 W = none) : stO w W = none := by rw [stO, h]
theorem stO_leaf {W : List (List UInt8)} {l : List Int} (h : intsO 10 W = some l) : stO bLeafL W = some ⟨true, l, 0, 0, 0, 0⟩ := by rw [stO, h]; exact if_pos rfl
theorem stO_split {W : List (List UInt8)} {a b c d : Int} (h : intsO 10 W = some [a, b, c, d]) : stO bSplitL W = some ⟨false, [], a, b, c, d⟩ := by
 rw [stO, h]
 show (if bSplitL = bLeafL then _ else if bSplitL = bSplitL then _ else _) = _
 rw [if_neg (by decide), if_pos rfl]
theorem stO_split_no {W : List (List UInt8)} {l : List Int} (h : intsO 10 W = some l) (hl : l.length ≠ 4) : stO bSplitL W = none := by
 rw [stO, h]
 show (if bSplitL = bLeafL then _ else if bSplitL = bSplitL then _ else _) = _
 rw [if_neg (by decide), if_pos rfl]
 split
 ·exact absurd rfl hl
 ·rfl
theorem stO_other {w : List UInt8} {W : List (List UInt8)} (h1 : w ≠ bLeafL) (h2 : w ≠ bSplitL) : stO w W = none := by
 rw [stO]
 split
 ·rfl
 ·rw [if_neg h1, if_neg h2]
theorem stO_fit {w : List UInt8} {W : List (List UInt8)} {s : St} (h : stO w W = some s) (hW : W.length ≤ 1000000) : s.factors.length ≤ 1000000 := by
 rw [stO] at h
 split at h
 ·cases h
 ·rename_i l hl
  have := intsO_len 10 W l hl
  split at h
  ·cases h; show l.length ≤ _; omega
  ·split at h
   ·split at h
    ·cases h; exact Nat.zero_le _
    ·cases h
   ·cases h
noncomputable def parP : List (List UInt8) → Nat → List St → List St × Int × Int
 | [], i, p => ([], i, 23)
 | r :: rs, i, p => match rs with
  | [] => if r = [] then (if checkFormE p 8 = 0 then (p, 0, 0) else ([], i, checkFormE p 8)) else ([], i, 23)
  | r' :: rs' => match cutL 32 r with
   | [] => ([], i, 23)
   | w :: W => match stO w W with
    | some s => parP (r' :: rs') (i + 1) (p ++ [s])
    | none => ([], i, 23)
noncomputable def parPR (s : ByteArray) : List St × Int × Int := if (16384 : Int) < s.size then ([], 0, 24) else parP (cutL 10 s.data.toList) 0 []
theorem parP_last {i : Nat} {p : List St} : parP [[]] i p = if checkFormE p 8 = 0 then (p, 0, 0) else ([], (i : Int), checkFormE p 8) := by
 rw [parP]
 simp
theorem parP_bad {i : Nat} {p : List St} {r : List UInt8} (h : r ≠ []) : parP [r] i p = ([], (i : Int), 23) := by
 rw [parP]
 simp [h]
theorem parP_step {i : Nat} {p : List St} {r : List UInt8} {rs : List (List UInt8)} {w : List UInt8} {W : List (List UInt8)} (h : rs ≠ []) (hc : cutL 32 r = w :: W) : parP (r :: rs) i p = (match stO w W with
  | some s => parP rs (i + 1) (p ++ [s])
  | none => ([], (i : Int), 23)) := by
 obtain ⟨r', rs', rfl⟩ := List.exists_cons_of_ne_nil h
 rw [parP, hc]
def wordS (s : St) : List UInt8 := if s.leaf then bLeafL else bSplitL
def bodyS (s : St) : List UInt8 := wordS s ++ numsB (lineL s)
def lineS (s : St) : List UInt8 := bodyS s ++ [10]
theorem word_data (s : St) : (if s.leaf then bLeaf else bSplit).data.toList = wordS s := by
 unfold wordS
 split <;> rfl
theorem lineP_data (s : St) : (lineP itoaP s).data.toList = lineS s := by
 have e : lineP itoaP s = lineF (if s.leaf then bLeaf else bSplit) (lineL s) := rfl
 rw [e, lineF_data, word_data]
 rfl
theorem joinTail_flat : ∀ l : List (List UInt8), Lib.joinTail [] l = l.flatten
 | [] => rfl
 | a :: l => by
  have := joinTail_flat l
  simp only [Lib.joinTail, List.map_cons, List.flatten_cons, List.nil_append] at this ⊢
  rw [this]
theorem join_flat : ∀ l : List (List UInt8), Lib.join l [] = l.flatten
 | [] => rfl
 | a :: l => by rw [Lib.join_cons, joinTail_flat, List.flatten_cons]
theorem printP_data (p : List St) : (printP itoaP p).data.toList = p.flatMap lineS := by
 show Lib.join ((p.map (lineP itoaP)).map (·.data.toList)) [] = _
 rw [join_flat, List.map_map, ← List.flatMap_def]
 congr 1
 exact funext lineP_data
theorem printP_bts (p : List St) : printP itoaP p = bts (p.flatMap lineS) := by
 rw [← printP_data, bts_of]
theorem stepE_all {p : List St} {m : Nat} (h : checkFormE p m = 0) : ∀ i s, p[i]? = some s → stepE s (i : Nat) m = 0 := by
 unfold checkFormE at h
 simp only at h
 split at h
 ·intro i s hs
  have := steps_zero h i s hs
  simpa using this
 ·rename_i hn
  exact absurd h hn
theorem step_nums {s : St} {i m : Nat} (h : stepE s i m = 0) (hm : m ≤ 1000) (hi : i ≤ 1000) : (lineL s).length ≤ 167 ∧ ∀ x ∈ lineL s, x.natAbs ≤ 4294967295 := by
 unfold lineL
 cases hl : s.leaf with
 | true =>
  rw [stepE, if_pos hl] at h
  split at h
  ·cases h
  ·simp only [if_true]
   refine ⟨by omega, fun x hx => ?_⟩
   have h1 := (firstE_zero _).1 h (firstE (s.factors.map fun n => withinE n 0 1000)) (by simp)
   have h2 := within_zero ((firstE_zero _).1 h1 _ (List.mem_map_of_mem hx))
   omega
 | false =>
  rw [stepE, if_neg (by rw [hl]; decide)] at h
  have h1 := (firstE_zero _).1 h
  have a1 := (whenE_zero (by decide)).1 (h1 (whenE (decide (s.var < 0) || decide ((m : Int) ≤ s.var)) 8) (by simp))
  have a2 := within_zero (h1 (withinE s.bound (-4294967295) 4294967295) (by simp))
  have a3 := (whenE_zero (by decide)).1 (h1 (earlierE s.k0 i) (by simp))
  have a4 := (whenE_zero (by decide)).1 (h1 (earlierE s.k1 i) (by simp))
  simp only [Bool.or_eq_false_iff, decide_eq_false_iff_not] at a1 a3 a4
  simp only [Bool.false_eq_true, if_false]
  refine ⟨by simp, fun x hx => ?_⟩
  simp only [List.mem_cons, List.not_mem_nil, or_false] at hx
  rcases hx with rfl | rfl | rfl | rfl <;> omega
theorem step_back {s : St} {i m : Nat} (h : stepE s i m = 0) (hm : m ≤ 1000) (hi : i ≤ 1000) : stO (wordS s) ((lineL s).map Lib.itoa) = some s := by
 obtain ⟨h1, h2⟩ := step_nums h hm hi
 have e10 : (10 : Nat) ^ (9 + 1) = 10000000000 := by decide
 have hi10 : intsO 10 ((lineL s).map Lib.itoa) = some (lineL s) := intsO_itoa 9 _ fun x hx => by
  have := h2 x hx
  omega
 obtain ⟨leaf, fac, var, bound, k0, k1⟩ := s
 cases leaf with
 | true =>
  have hw : wordS ⟨true, fac, var, bound, k0, k1⟩ = bLeafL := rfl
  have hl : lineL ⟨true, fac, var, bound, k0, k1⟩ = fac := rfl
  rw [hl] at hi10 ⊢
  rw [hw, stO_leaf hi10]
  rw [stepE, if_pos rfl] at h
  split at h
  ·cases h
  ·have a := (whenE_zero (by decide)).1 ((firstE_zero _).1 h (whenE (decide (var ≠ 0) || decide (bound ≠ 0) || !(decide (k0 = 0) && decide (k1 = 0))) 1) (by simp))
   simp at a
   obtain ⟨⟨rfl, rfl⟩, rfl, rfl⟩ := a
   rfl
 | false =>
  have hw : wordS ⟨false, fac, var, bound, k0, k1⟩ = bSplitL := rfl
  have hl : lineL ⟨false, fac, var, bound, k0, k1⟩ = [var, bound, k0, k1] := rfl
  rw [hl] at hi10 ⊢
  rw [hw, stO_split hi10]
  rw [stepE, if_neg (fun e => by cases e)] at h
  have a := (whenE_zero (by decide)).1 ((firstE_zero _).1 h (whenE (decide (0 < (fac.length : Int))) 1) (by simp))
  simp at a
  subst a
  rfl
theorem wordS_free (s : St) (c : UInt8) (h : c.toNat < 90) : c ∉ wordS s := by
 have key : ∀ w : List UInt8, (∀ b ∈ w, 97 ≤ b.toNat) → c ∉ w := fun w hw hc => by
  have := hw c hc
  omega
 unfold wordS
 split
 all_goals exact key _ (by decide)
theorem parP_back {m : Nat} (hm : m ≤ 1000) : ∀ (l : List St) (i : Nat) (p : List St), (∀ k s, l[k]? = some s → stepE s ((i + k : Nat) : Int) m = 0) → i + l.length ≤ 1000 → checkFormE (p ++ l) 8 = 0 → parP (l.map bodyS ++ [[]]) i p = (p ++ l, 0, 0)
 | [], i, p, _, _, hc => by
  rw [List.append_nil] at hc ⊢
  rw [List.map_nil, List.nil_append, parP_last, if_pos hc]
 | s :: l, i, p, hok, hl, hc => by
  have hN := hok 0 s rfl
  simp only [List.length_cons] at hl
  have hcut : cutL 32 (bodyS s) = wordS s :: (lineL s).map Lib.itoa := cut_words _ _ (wordS_free _ _ (by decide))
  rw [List.map_cons, List.cons_append, parP_step (by simp) hcut, step_back hN hm (by omega)]
  simp only
  rw [parP_back hm l (i + 1) (p ++ [s]) (fun k z hz => by
   have := hok (k + 1) z (by simpa using hz)
   rw [show i + 1 + k = i + (k + 1) by omega]
   exact this) (by omega) (by simpa using hc)]
  simp
theorem proof_back {p : List St} (h : checkFormE p 8 = 0) (hs : (printP itoaP p).size ≤ 16384) : parPR (printP itoaP p) = (p, 0, 0) := by
 obtain ⟨hne, hl, hok⟩ := form_ok (m := 8) h
 have hb : (printP itoaP p).data.toList = (p.map bodyS).flatMap fun b => b ++ [10] := by
  rw [printP_data, List.flatMap_map]
  rfl
 rw [parPR, if_neg (by omega), hb, cut_lines]
 ·exact parP_back (m := 8) (by decide) p 0 [] (fun k s hk => by simpa using stepE_all (m := 8) h k s hk) (by omega) h
 ·intro b hb
  obtain ⟨n, hn, rfl⟩ := List.mem_map.1 hb
  simp only [bodyS, List.mem_append, not_or]
  exact ⟨wordS_free _ _ (by decide), nums_free 10 (by decide) (by decide) _⟩
theorem itoa_le {x : Int} (h : x.natAbs ≤ 4294967295) : (Lib.itoa x).length ≤ 21 := itoa_len (n := x) ⟨by omega, by omega⟩
theorem numsB_len : ∀ {l : List Int}, (∀ x ∈ l, x.natAbs ≤ 4294967295) → (numsB l).length ≤ 22 * l.length
 | [], _ => by simp [numsB]
 | x :: l, h => by
  have ih := numsB_len (l := l) fun y hy => h y (List.mem_cons_of_mem _ hy)
  have h1 := itoa_le (h x (by simp))
  simp only [numsB, List.flatMap_cons, List.length_append, List.length_cons] at ih ⊢
  omega
theorem wordS_len (s : St) : (wordS s).length ≤ 5 := by
 unfold wordS
 split <;> decide
theorem lineS_len {s : St} {i m : Nat} (h : stepE s i m = 0) (hm : m ≤ 1000) (hi : i ≤ 1000) : (lineS s).length ≤ 3700 := by
 obtain ⟨h1, h2⟩ := step_nums h hm hi
 have := numsB_len h2
 have := wordS_len s
 simp only [lineS, bodyS, List.length_append, List.length_cons, List.length_nil]
 omega
variable {Γ : Glob}
attribute [local irreducible] codeW opsW dopsW
theorem f322 (n : Int) : PCalls Tryz.prog Γ 322 [int n] (.v (.bool true)) := by
 refine pcalls (ok322 Γ) fun σ => ?_
 simp only [go_sem, xP, xR, xS, Tryz.f322]
theorem f324 (n : Int) : PCalls Tryz.prog Γ 324 [int n] (.v (.bool (decide (n = 4)))) := by
 refine pcalls (ok324 Γ) fun σ => ?_
 simp only [go_sem, xP, xR, xS, Tryz.f324]
theorem f323 (l : List Int) : PCalls Tryz.prog Γ 323 [slI l] (stA ⟨true, l, 0, 0, 0, 0⟩) := by
 refine pcalls (ok323 Γ) fun σ => ?_
 simp only [go_sem, xP, xR, xS, Tryz.f323]
 intro b hb
 simp only [go_sem, xP, xR, xS]
 exact retP_drop (by repeat (first | exact Drop.refl _ | assumption | refine Drop.upd ?_ (by assumption))) (rfl)
theorem f325 (a b c d : Int) : PCalls Tryz.prog Γ 325 [slI [a, b, c, d]] (stA ⟨false, [], a, b, c, d⟩) := by
 refine pcalls (ok325 Γ) fun σ => ?_
 simp only [go_sem, xP, xR, xS, Tryz.f325, slI, ints]
 intro b2 hb
 simp only [go_sem, xP, xR, xS]
 exact ⟨.agg (.cons (.refl _) (.cons .nil (.cons (.refl _) (.cons (.refl _) (.cons (.refl _) (.cons (.refl _) .nil)))))), by repeat (first | exact Drop.refl _ | refine Drop.upd ?_ (by assumption))⟩
theorem bts_inj_leaf (w : List UInt8) : bLeaf = bts w ↔ w = bLeafL := ⟨fun h => by have := congrArg (·.data.toList) h; exact this.symm, fun h => h ▸ rfl⟩
theorem bts_inj_split (w : List UInt8) : bSplit = bts w ↔ w = bSplitL := ⟨fun h => by have := congrArg (·.data.toList) h; exact this.symm, fun h => h ▸ rfl⟩
noncomputable def stR (o : Option St) : AV := .tup [stA (o.getD st0), .v (.bool o.isSome)]
set_option maxHeartbeats 4000000 in
theorem f186 (hG3 : Γ 3 = some kindsT) (s : ByteArray) (hs : s.size ≤ 1000000) (w : List UInt8) (W : List (List UInt8)) (hW : cutL 32 (cutEnd s).data.toList = w :: W) : PCalls Tryz.prog Γ 186 [str s] (stR (if endsB s then stO w W else none)) := by
 have hcl := cutEnd_le s
 have hsz := Lib.size_eq (cutEnd s)
 have hWl : W.length ≤ 1000000 := by have := cutL_len 32 (cutEnd s).data.toList; rw [hW] at this; simp at this; omega
 have hWm : ∀ x ∈ W, x.length ≤ 1000000 := fun x hx => by have := (cutL_mem 32 (cutEnd s).data.toList x (by rw [hW]; simp [hx])).2; omega
 have hro : slStr (rowsB 32 (cutEnd s)) = .sl (str (bts w) :: strs (W.map bts)) (W.length + 1) := by rw [rowsB, hW]; exact slW_cons w W
 have g1 : (1 : Int) ≤ ((W.length + 1 : Nat) : Int) := by omega
 have g0 : (0 : Int) < ((W.length + 1 : Nat) : Int) := by omega
 have hG : Γ 3 = some [str bLeaf, .fn (.func 322) [] [], .fn (.func 323) [] [], str bSplit, .fn (.func 324) [] [], .fn (.func 325) [] []] := hG3
 refine pcalls (ok186 Γ) fun σ => ?_
 simp only [go_sem, xP, xR, xS, Tryz.f186]
 intro b2 hb2
 simp only [go_sem, xP, xR, xS]
 refine callB_use (f195 s hs) rfl ?_
 simp only [go_sem, xP, xR, xS]
 refine callB_use (f196 (cutEnd s) (by omega)) rfl ?_
 simp only [go_sem, xP, xR, xS, hro]
 refine SemC.loopK mixed 2 (fun i ρ σ' ds => ds = [] ∧ (ρ 2 = .v (.pointer (some ⟨b2, 0, none⟩)) ∧ ρ 5 = .v (.bool (endsB s)) ∧ ρ 6 = .sl (str (bts w) :: strs (W.map bts)) (W.length + 1)) ∧ ρ 18 = int i ∧ σ' b2 = some (.row [.v (.bool false), .v (.slice none 0 0), int 0, int 0, int 0, int 0] 6 1) ∧ Drop σ' σ ∧ (0 < i → w ≠ bLeafL) ∧ (1 < i → w ≠ bSplitL)) (by kernel_rfl) ?_ ?_
 ·exact ⟨rfl, by simp only [go_sem, xP, xR, xS], rfl, by simp [upd, int], (Drop.refl σ).upd hb2, fun h => absurd h (by omega), fun h => absurd h (by omega)⟩
 rintro i ρ σ' ds hi ⟨rfl, H, h18, q2, hD, c1, c2⟩
 have hii : i = 0 ∨ i = 1 ∨ i = 2 := by omega
 rcases hii with rfl | rfl | rfl
 ·simp only [go_sem, xP, xR, xS, H, h18, hG]
  intro b8 hb8
  have z8 := hD.free hb8
  have n8 : ¬ b2 = b8 := nn hb8 q2
  have n8' : ¬ b8 = b2 := fun e => n8 e.symm
  simp only [go_sem, xP, xR, xS, H, h18, n8, n8', g0, str_eq2]
  by_cases hw : bLeaf = bts w
  ·have hw' := (bts_inj_leaf w).1 hw
   simp only [go_sem, xP, xR, xS, H, h18, n8, n8', hw, g1, decide_true]
   refine callB_use (f241 W hWl hWm) (by simp [slW, slStr, strs_take]) ?_
   cases he : endsB s with
   | false =>
    rw [he] at H
    simp only [go_sem, xP, xR, xS, H, h18, n8, n8', hG, intsR, q2, Bool.false_eq_true, if_false]
    exact ⟨.tup (.cons (.agg (.cons (.refl _) (.cons .nil (.cons (.refl _) (.cons (.refl _) (.cons (.refl _) (.cons (.refl _) .nil))))))) (.cons (.refl _) .nil)), by repeat (first | exact hD | refine Drop.upd ?_ (by assumption))⟩
   | true =>
    rw [he] at H
    cases hi : intsO 10 W with
    | none =>
     have hst : stO w W = none := stO_none hi
     simp only [go_sem, xP, xR, xS, H, h18, n8, n8', hG, intsR, hi, hst, Option.isSome_none, Option.getD_none, q2, if_true]
     exact ⟨.tup (.cons (.agg (.cons (.refl _) (.cons .nil (.cons (.refl _) (.cons (.refl _) (.cons (.refl _) (.cons (.refl _) .nil))))))) (.cons (.refl _) .nil)), by repeat (first | exact hD | refine Drop.upd ?_ (by assumption))⟩
    | some l =>
     simp only [go_sem, xP, xR, xS, H, h18, n8, n8', hG, intsR, hi, Option.isSome_some, Option.getD_some, q2, if_true]
     have hll := intsO_len 10 W l hi
     refine callB_use (f322 l.length) rfl ?_
     simp only [go_sem, xP, xR, xS, H, h18, n8, n8', hG, q2]
     refine callB_use (f323 l) rfl ?_
     simp only [go_sem, xP, xR, xS, H, h18, n8, n8', hG, q2]
     have hst : stO w W = some ⟨true, l, 0, 0, 0, 0⟩ := by rw [hw']; exact stO_leaf hi
     rw [hst]
     exact retP_drop (by repeat (first | exact Drop.refl _ | assumption | refine Drop.upd ?_ (by assumption))) (rfl)
  ·have hw' : ¬ w = bLeafL := fun e => hw ((bts_inj_leaf w).2 e)
   simp only [go_sem, xP, xR, xS, H, h18, n8, n8', hw, decide_false]
   exact ⟨by omega, congrArg (fun n => AV.v (Value.int .i64 n)) (by decide), q2, hD.upd z8, fun _ => hw', fun h => absurd h (by omega)⟩
 ·simp only [go_sem, xP, xR, xS, H, h18, hG]
  intro b8 hb8
  have z8 := hD.free hb8
  have n8 : ¬ b2 = b8 := nn hb8 q2
  have n8' : ¬ b8 = b2 := fun e => n8 e.symm
  simp only [go_sem, xP, xR, xS, H, h18, n8, n8', g0, str_eq2]
  by_cases hw : bSplit = bts w
  ·have hw' := (bts_inj_split w).1 hw
   simp only [go_sem, xP, xR, xS, H, h18, n8, n8', hw, g1, decide_true]
   refine callB_use (f241 W hWl hWm) (by simp [slW, slStr, strs_take]) ?_
   cases he : endsB s with
   | false =>
    rw [he] at H
    simp only [go_sem, xP, xR, xS, H, h18, n8, n8', hG, intsR, q2, Bool.false_eq_true, if_false]
    exact ⟨.tup (.cons (.agg (.cons (.refl _) (.cons .nil (.cons (.refl _) (.cons (.refl _) (.cons (.refl _) (.cons (.refl _) .nil))))))) (.cons (.refl _) .nil)), by repeat (first | exact hD | refine Drop.upd ?_ (by assumption))⟩
   | true =>
    rw [he] at H
    cases hi : intsO 10 W with
    | none =>
     have hst : stO w W = none := stO_none hi
     simp only [go_sem, xP, xR, xS, H, h18, n8, n8', hG, intsR, hi, hst, Option.isSome_none, Option.getD_none, q2, if_true]
     exact ⟨.tup (.cons (.agg (.cons (.refl _) (.cons .nil (.cons (.refl _) (.cons (.refl _) (.cons (.refl _) (.cons (.refl _) .nil))))))) (.cons (.refl _) .nil)), by repeat (first | exact hD | refine Drop.upd ?_ (by assumption))⟩
    | some l =>
     simp only [go_sem, xP, xR, xS, H, h18, n8, n8', hG, intsR, hi, Option.isSome_some, Option.getD_some, q2, if_true]
     have hll := intsO_len 10 W l hi
     refine callB_use (f324 l.length) rfl ?_
     simp only [go_sem, xP, xR, xS, H, h18, n8, n8', hG, q2]
     by_cases h4 : l.length = 4
     ·obtain ⟨a, b, c, d, rfl⟩ : ∃ a b c d, l = [a, b, c, d] := by
       match l, h4 with
       | [a, b, c, d], _ => exact ⟨a, b, c, d, rfl⟩
      have hst : stO w W = some ⟨false, [], a, b, c, d⟩ := by rw [hw']; exact stO_split hi
      rw [hst]
      simp only [go_sem, xP, xR, xS, H, h18, n8, n8', hG, q2]
      refine callB_use (f325 a b c d) rfl ?_
      simp only [go_sem, xP, xR, xS, H, h18, n8, n8', hG, q2]
      exact retP_drop (by repeat (first | exact Drop.refl _ | assumption | refine Drop.upd ?_ (by assumption))) (rfl)
     ·have hst : stO w W = none := by rw [hw']; exact stO_split_no hi h4
      have h4' : ¬ (l.length : Int) = 4 := by omega
      simp only [go_sem, xP, xR, xS, H, h18, n8, n8', hG, q2, h4', hst, decide_false]
      exact ⟨.tup (.cons (.agg (.cons (.refl _) (.cons .nil (.cons (.refl _) (.cons (.refl _) (.cons (.refl _) (.cons (.refl _) .nil))))))) (.cons (.refl _) .nil)), by repeat (first | exact hD | refine Drop.upd ?_ (by assumption))⟩
  ·have hw' : ¬ w = bSplitL := fun e => hw ((bts_inj_split w).2 e)
   simp only [go_sem, xP, xR, xS, H, h18, n8, n8', hw, decide_false]
   exact ⟨by omega, congrArg (fun n => AV.v (Value.int .i64 n)) (by decide), q2, hD.upd z8, fun _ => c1 (by omega), fun _ => hw'⟩
 ·have hst : stO w W = none := stO_other (c1 (by omega)) (c2 (by omega))
  have hr : (if endsB s = true then stO w W else none) = none := by rw [hst]; split <;> rfl
  rw [hr]
  simp only [go_sem, xP, xR, xS, H, h18, q2]
  exact ⟨.tup (.cons (.agg (.cons (.refl _) (.cons .nil (.cons (.refl _) (.cons (.refl _) (.cons (.refl _) (.cons (.refl _) .nil))))))) (.cons (.refl _) .nil)), by repeat (first | exact hD | refine Drop.upd ?_ (by assumption))⟩
theorem closedB_neAt {E : Nat → Blk → Prop} {σ σ' : Sig} {b b' : Nat} {cs : List AV} {s c : Nat} (hD : ¬ E b' (.row cs s c)) (hb : σ' b = none ∨ (σ b = none ∧ ∃ x, σ' b = some x ∧ Ctl x) ∨ ∃ x, σ' b = some x ∧ E b x) (h : σ' b' = some (.row cs s c)) : b' ≠ b := fun e => by
 subst e
 rcases hb with h1 | ⟨_, x, h1, hx⟩ | ⟨x, h1, hx⟩
 ·rw [h] at h1; cases h1
 ·rw [h] at h1; cases h1; exact hx
 ·rw [h] at h1; cases h1; exact hD hx
theorem ClosedB.rowAt {E : Nat → Blk → Prop} {σ : Sig} {b' : Nat} {cs : List AV} {s c : Nat} (hD : ¬ E b' (.row cs s c)) : ClosedB E σ fun σ' => σ' b' = some (.row cs s c) := fun σ' b y hb h => by
 show upd σ' b y b' = _
 rw [upd_ne _ _ _ _ (closedB_neAt hD hb h)]; exact h
theorem Grow.noStr {σ0 σ : Sig} {s n : Nat} {a : AV} {cs : List AV} (h : Grow σ0 σ s a cs n) : ¬ KD lineC (.row [a] 1 1) := fun e => by
 rcases e with e | ⟨x, e⟩
 ·exact e
 ·cases e
  rcases h with ⟨h, _⟩ | ⟨b, c, h, _⟩
  ·rcases h with h | h <;> cases h
  ·cases h
theorem nil_noStr : ¬ KD lineC (.row [.v (.slice none 0 0)] 1 1) := (Grow.nil (fun _ => none) (fun _ => none) 1).noStr
theorem keep_cellN {σ σ' : Sig} {b : Nat} {cs : List AV} {s c : Nat} {y : Option Blk} (hk : Keep (KD lineC) σ σ') (hb : σ b = some (.row cs s c)) (hn : ¬ KD lineC (.row cs s c)) : Keep (KD lineC) σ (upd σ' b y) := hk.upd fun x hx => by
 rw [hb] at hx
 cases hx
 exact hn
theorem ints_noStr (n : Int) : ¬ KD lineC (.row [int n] 1 1) := no_lineK (.inr ⟨_, rfl⟩)
set_option maxHeartbeats 8000000 in
set_option maxRecDepth 20000 in
theorem f96 (hG1 : Γ 1 = some [int 0, int 0]) (hG3 : Γ 3 = some kindsT) (s : ByteArray) (hs : s.size ≤ 1000000) : PCalls Tryz.prog Γ 96 [str s] (.tup [prA (parPR s).1, int (parPR s).2.1, int (parPR s).2.2]) := by
 obtain ⟨rows, hrows⟩ : ∃ rows, cutL 10 s.data.toList = rows := ⟨_, rfl⟩
 have hrne : rows ≠ [] := hrows ▸ cutL_ne 10 _
 have hrm : ∀ r ∈ rows, (10 : UInt8) ∉ r ∧ r.length ≤ s.size := fun r hr => by
  rw [Lib.size_eq]
  exact cutL_mem 10 s.data.toList r (hrows ▸ hr)
 have hrl : rows.length ≤ s.size + 1 := by
  rw [← hrows, Lib.size_eq]
  exact cutL_len 10 _
 have hxs : linesX s = (linesR rows).map fun l => str (bts l) := by rw [linesX, linesL, hrows]
 refine pcalls (ok96 Γ) fun σ => ?_
 simp only [go_sem, xP, xR, xS, Tryz.f96, str]
 intro b2 hb2
 simp only [go_sem, xP, xR, xS]
 intro b3 hb3
 obtain ⟨n32, hb3'⟩ := un hb3
 have n23 : ¬ b2 = b3 := fun e => n32 e.symm
 simp only [go_sem, xP, xR, xS]
 intro b4 hb4
 obtain ⟨n43, hb4'⟩ := un hb4
 obtain ⟨n42, hb4'⟩ := un hb4'
 have n34 : ¬ b3 = b4 := fun e => n43 e.symm
 have n24 : ¬ b2 = b4 := fun e => n42 e.symm
 by_cases h0 : (16384 : Int) < s.size
 ·rw [parPR, if_pos h0]
  simp only [go_sem, xP, xR, xS, n32, n23, n43, n42, n34, n24, h0]
  exact ⟨.tup (.cons (.agg (.cons .nil .nil)) (.cons (.refl _) (.cons (.refl _) .nil))), by repeat (first | exact Drop.refl _ | assumption | refine Drop.upd ?_ (by assumption))⟩
 rw [parPR, if_neg h0, hrows]
 simp only [go_sem, xP, xR, xS, n32, n23, n43, n42, n34, n24, h0]
 intro b5 hb5
 obtain ⟨n54, hb5'⟩ := un hb5
 obtain ⟨n53, hb5'⟩ := un hb5'
 obtain ⟨n52, hb5'⟩ := un hb5'
 have N : (¬ b2 = b3 ∧ ¬ b3 = b2 ∧ ¬ b2 = b4 ∧ ¬ b4 = b2 ∧ ¬ b3 = b4 ∧ ¬ b4 = b3) ∧ (¬ b5 = b4 ∧ ¬ b4 = b5 ∧ ¬ b5 = b3 ∧ ¬ b3 = b5 ∧ ¬ b5 = b2 ∧ ¬ b2 = b5) :=
  ⟨⟨n23, n32, n24, n42, n34, n43⟩, ⟨n54, Ne.symm n54, n53, Ne.symm n53, n52, Ne.symm n52⟩⟩
 clear n23 n32 n24 n42 n34 n43 n54 n53 n52
 simp only [go_sem, xP, xR, xS, N, upd_upd]
 refine callB_a (f185 s _ _ (fun bL hbL => ?_)) rfl
 simp only [go_sem, xP, xR, xS, N]
 have hDs : Drop (upd (upd (upd (upd (upd σ b2 (some (.row [.v (.slice none 0 0)] 1 1))) b3 (some (.row [int 0] 1 1))) b4 (some (.row [int 0] 1 1))) b5 (some (.row [.v (.slice none 0 0)] 1 1))) bL (some (.row [str s] 1 1))) σ := by
  have := (un (un (un (un hbL).2).2).2).2
  repeat (first | exact Drop.refl _ | assumption | refine Drop.upd ?_ (by assumption))
 have hLs : σ bL = none := (un (un (un (un hbL).2).2).2).2
 have hDe : ∀ b x y, σ b = some x → ¬ lineE bL b y := fun b x y hx h => by rw [h.1, hLs] at hx; cases hx
 have nL : ¬ b2 = bL ∧ ¬ b3 = bL ∧ ¬ b4 = bL ∧ ¬ b5 = bL := by
  obtain ⟨m5, h⟩ := un hbL
  obtain ⟨m4, h⟩ := un h
  obtain ⟨m3, h⟩ := un h
  obtain ⟨m2, h⟩ := un h
  exact ⟨Ne.symm m2, Ne.symm m3, Ne.symm m4, Ne.symm m5⟩
 have hz5 : σ b5 = none := (un (un (un hb5).2).2).2
 refine SemC.rangeB (xs := linesX s) (D := lineC) (E := lineE bL) (pre := fun σ => σ bL = some (.row [str s] 1 1)) (f := 239) (first := []) (captured := [.v (.pointer (some ⟨bL, 0, none⟩))]) mixed (by simp only [go_sem, xP, xR, xS]) (f239 s hs bL) (by decide) (by kernel_rfl) (by kernel_rfl) line_ctl (fun _ x h => line_ctl x h.2) (fun b1 c1 x y h1 h2 => by
   rw [upd_ne, upd_ne, upd_same]
   ·exact fun e => by rw [← e, upd_same] at h1; cases h1
   ·exact fun e => by rw [← e, upd_same] at h2; cases h2)
  (fun k σ' => ∃ p a, (parP rows 0 [] = parP (rows.drop k) k p ∧ rows.drop k ≠ [] ∧ p.length = k ∧ (∀ n ∈ p, n.factors.length ≤ 1000000)) ∧ σ' b2 = some (.row [.v (.slice none 0 0)] 1 1) ∧ σ' b3 = some (.row [int 0] 1 1) ∧ σ' b4 = some (.row [int 0] 1 1) ∧ σ' b5 = some (.row [a] 1 1) ∧ Grow σ σ' 6 a (p.flatMap stC) p.length ∧ Drop σ' σ)
  (fun e σ' => ∃ i : Int, (e = .ret ∧ parP rows 0 [] = ([], i, 23)) ∧ σ' b2 = some (.row [.v (.slice none 0 0)] 1 1) ∧ σ' b3 = some (.row [int i] 1 1) ∧ σ' b4 = some (.row [int 23] 1 1) ∧ Drop σ' σ)
  (fun k x ρ1 σ1 => ∃ l p a, ((linesR rows)[k]? = some l ∧ (ρ1 2 = .v (.pointer (some ⟨b2, 0, none⟩)) ∧ ρ1 3 = .v (.pointer (some ⟨b3, 0, none⟩)) ∧ ρ1 4 = .v (.pointer (some ⟨b4, 0, none⟩)) ∧ ρ1 5 = .v (.pointer (some ⟨b5, 0, none⟩)) ∧ ρ1 6 = str (bts l)) ∧ parP rows 0 [] = parP (rows.drop k) k p ∧ p.length = k ∧ (∀ n ∈ p, n.factors.length ≤ 1000000)) ∧ σ1 b2 = some (.row [.v (.slice none 0 0)] 1 1) ∧ σ1 b3 = some (.row [int 0] 1 1) ∧ σ1 b4 = some (.row [int 0] 1 1) ∧ σ1 b5 = some (.row [a] 1 1) ∧ Grow σ σ1 6 a (p.flatMap stC) p.length ∧ Drop σ1 σ)
  ?_ ?_ ?_ ?_ ?_ ?_ ?_ ?_
 ·(intros; repeat' (first | exact ClosedB.rowAt (fun h => nL.1 h.1) | exact ClosedB.rowAt (fun h => nL.2.1 h.1) | exact ClosedB.rowAt (fun h => nL.2.2.1 h.1) | exact ClosedB.rowAt (fun h => nL.2.2.2 h.1) | exact ClosedB.grow (fun _ _ => no_lineE (.inl (by decide))) | exact ClosedB.drop hDs hDe | exact ClosedB.const _ | refine ClosedB.ex fun _ => ?_ | refine ClosedB.and ?_ ?_))
 ·(intros; repeat' (first | exact ClosedB.rowAt (fun h => nL.1 h.1) | exact ClosedB.rowAt (fun h => nL.2.1 h.1) | exact ClosedB.rowAt (fun h => nL.2.2.1 h.1) | exact ClosedB.rowAt (fun h => nL.2.2.2 h.1) | exact ClosedB.grow (fun _ _ => no_lineE (.inl (by decide))) | exact ClosedB.drop hDs hDe | exact ClosedB.const _ | refine ClosedB.ex fun _ => ?_ | refine ClosedB.and ?_ ?_))
 ·(intros; repeat' (first | exact ClosedB.rowAt (fun h => nL.1 h.1) | exact ClosedB.rowAt (fun h => nL.2.1 h.1) | exact ClosedB.rowAt (fun h => nL.2.2.1 h.1) | exact ClosedB.rowAt (fun h => nL.2.2.2 h.1) | exact ClosedB.grow (fun _ _ => no_lineE (.inl (by decide))) | exact ClosedB.drop hDs hDe | exact ClosedB.const _ | refine ClosedB.ex fun _ => ?_ | refine ClosedB.and ?_ ?_))
 ·refine ⟨[], .v (.slice none 0 0), ⟨rfl, hrne, rfl, fun n hn => by cases hn⟩, ?_, ?_, ?_, ?_, .nil _ _ _, hDs⟩
  all_goals simp [upd, N, nL, int]
 ·rintro k x E σ' l hE hx ⟨p, a, ⟨hz, hne, hfl, hfn⟩, q2, q3, q4, q5, hGr, hD⟩
  rw [hxs, List.getElem?_map] at hx
  obtain ⟨ln, hln, rfl⟩ := Option.map_eq_some_iff.1 hx
  have e2 : E 2 = .v (.pointer (some ⟨b2, 0, none⟩)) := by rw [hE 2 (by decide)]; simp only [go_sem, xP, xR, xS]
  have e3 : E 3 = .v (.pointer (some ⟨b3, 0, none⟩)) := by rw [hE 3 (by decide)]; simp only [go_sem, xP, xR, xS]
  have e4 : E 4 = .v (.pointer (some ⟨b4, 0, none⟩)) := by rw [hE 4 (by decide)]; simp only [go_sem, xP, xR, xS]
  have e5 : E 5 = .v (.pointer (some ⟨b5, 0, none⟩)) := by rw [hE 5 (by decide)]; simp only [go_sem, xP, xR, xS]
  simp only [go_sem, xP, xR, xS, e2, e3, e4, e5, str]
  refine ⟨Keep.refl _ _, ln, p, a, ?_⟩
  simp only [go_sem, xP, xR, xS, e2, e3, e4, e5, str]
  exact ⟨⟨hln, hz, hfl, hfn⟩, q2, q3, q4, q5, hGr, hD⟩
 ·rintro k x ρ1 σ' l hx ⟨ln, p, a, ⟨hln, H, hz, hfl, hfn⟩, q2, q3, q4, q5, hGr, hD⟩
  obtain ⟨r, rs, hd, hcase⟩ := linesR_get rows k ln hln
  have hrr : r ∈ rows := List.mem_of_mem_drop (i := k) (by rw [hd]; simp)
  have hd1 : rows.drop (k + 1) = rs := by rw [← List.tail_drop, hd]; rfl
  obtain ⟨r10, rle⟩ := hrm r hrr
  have hkl : k < rows.length := by
   have := congrArg List.length hd
   rw [List.length_drop] at this
   simp at this
   omega
  rw [hd] at hz
  have hln1 : (bts ln).size ≤ 1000000 := by
   rw [bts_size]
   rcases hcase with ⟨_, rfl⟩ | ⟨_, rfl, _⟩
   ·simp; omega
   ·omega
  obtain ⟨w, W, hW⟩ := cutL_cons 32 (cutEnd (bts ln)).data.toList
  have hcall := f186 (Γ := Γ) hG3 (bts ln) hln1 w W hW
  obtain ⟨o, ho⟩ : ∃ o, (if endsB (bts ln) then stO w W else none) = o := ⟨_, rfl⟩
  rw [ho] at hcall
  have hzo : (o = none → parP rows 0 [] = ([], (k : Int), 23)) ∧ ∀ s, o = some s → rs ≠ [] ∧ stO w W = some s ∧ parP rows 0 [] = parP rs (k + 1) (p ++ [s]) := by
   rcases hcase with ⟨hrs, rfl⟩ | ⟨rfl, rfl, hrn⟩
   ·rw [ends_nl, if_pos rfl] at ho
    rw [cut_nl, bts_data] at hW
    rw [parP_step hrs hW, ho] at hz
    refine ⟨fun e => ?_, fun s e => ?_⟩
    ·subst e; exact hz
    ·subst e; exact ⟨hrs, ho, hz⟩
   ·rw [ends_none r10] at ho
    refine ⟨fun e => by rw [hz, parP_bad hrn], fun s e => ?_⟩
    rw [← ho] at e
    cases e
  have hWl : W.length ≤ 1000000 := by
   have := cutL_len 32 (cutEnd (bts ln)).data.toList
   rw [hW] at this
   have h2 := cutEnd_le (bts ln)
   rw [Lib.size_eq] at h2
   simp only [List.length_cons] at this
   omega
  cases o with
  | none =>
   have hz := hzo.1 rfl
   simp only [go_sem, xP, xR, xS, H, N]
   refine callB_use (hcall) rfl ?_
   simp only [go_sem, xP, xR, xS, H, N, stR, Option.isSome_none, Option.getD_none, stA, st0, stC]
   intro b7 hb7
   have m2 : ¬ b2 = b7 := nn hb7 q2
   have m3 : ¬ b3 = b7 := nn hb7 q3
   have m4 : ¬ b4 = b7 := nn hb7 q4
   have m5 : ¬ b5 = b7 := nn hb7 q5
   have M : (¬ b2 = b7 ∧ ¬ b7 = b2) ∧ (¬ b3 = b7 ∧ ¬ b7 = b3) ∧ (¬ b4 = b7 ∧ ¬ b7 = b4) ∧ (¬ b5 = b7 ∧ ¬ b7 = b5) := ⟨⟨m2, Ne.symm m2⟩, ⟨m3, Ne.symm m3⟩, ⟨m4, Ne.symm m4⟩, m5, Ne.symm m5⟩
   simp only [go_sem, xP, xR, xS, H, N, M]
   rw [upd_upd]
   refine frzB_grow2 5 b5 (by simp only [go_sem, xP, xR, xS, H]) (by (repeat rw [upd_ne _ _ _ _ m5]); exact q5) (hGr.upd hb7) (hGr.neS q5 (by decide)) (fun σf hDf hKf => ?_)
   have w2 : σf b2 = some (.row [.v (.slice none 0 0)] 1 1) := by rw [hKf b2 N.2.2.2.2.2.2 (hGr.neS q2 (by decide)), upd_ne _ _ _ _ m2]; exact q2
   have w3 : σf b3 = some (.row [int 0] 1 1) := by rw [hKf b3 N.2.2.2.2.1 (hGr.neS q3 (by decide)), upd_ne _ _ _ _ m3]; exact q3
   have w4 : σf b4 = some (.row [int 0] 1 1) := by rw [hKf b4 N.2.2.1 (hGr.neS q4 (by decide)), upd_ne _ _ _ _ m4]; exact q4
   have hkf : Keep (KD lineC) σ' σf := fun b x hb hx => by
    have hb7' : ¬ b = b7 := fun e => by rw [e, hb7] at hb; cases hb
    have hb5' : ¬ b = b5 := fun e => by rw [e, q5] at hb; cases hb; exact hGr.noStr hx
    rw [hKf b hb5' fun s1 o m e => ?_, upd_ne _ _ _ _ hb7']
    ·exact hb
    ·subst e
     rcases hGr with ⟨h | h, _⟩ | ⟨b', c, h0, h1, h2, h3⟩
     ·cases h
     ·cases h
     ·cases h0
      rw [h2] at hb
      cases hb
      exact no_lineK (.inl (by decide)) hx
   have hDg : Drop σf σ := Drop.of fun b hb => by
    have hb5' : ¬ b = b5 := fun e => hb (e ▸ hz5)
    have hb7' : ¬ b = b7 := fun e => hb (e ▸ hD.free hb7)
    rw [hKf b hb5' (hGr.neB hb), upd_ne _ _ _ _ hb7']
    exact ((hD b).resolve_left hb).symm
   simp only [go_sem, xP, xR, xS, H, N, w2, w3, w4, hfl]
   refine ⟨?_, k, hz, rfl, ?_⟩
   ·refine keep_cellN (keep_cellN (keep_cellN hkf q2 nil_noStr) q3 (ints_noStr _)) q4 (ints_noStr _)
   ·repeat (first | exact hDg | refine Drop.upd ?_ (by assumption))
  | some st =>
   obtain ⟨hrs, hst, hz⟩ := hzo.2 st rfl
   simp only [go_sem, xP, xR, xS, H, N]
   refine callB_use (hcall) rfl ?_
   simp only [go_sem, xP, xR, xS, H, N, stR, Option.isSome_some, Option.getD_some, stA, stC]
   intro b7 hb7
   have m2 : ¬ b2 = b7 := nn hb7 q2
   have m3 : ¬ b3 = b7 := nn hb7 q3
   have m4 : ¬ b4 = b7 := nn hb7 q4
   have m5 : ¬ b5 = b7 := nn hb7 q5
   have M : (¬ b2 = b7 ∧ ¬ b7 = b2) ∧ (¬ b3 = b7 ∧ ¬ b7 = b3) ∧ (¬ b4 = b7 ∧ ¬ b7 = b4) ∧ (¬ b5 = b7 ∧ ¬ b7 = b5) := ⟨⟨m2, Ne.symm m2⟩, ⟨m3, Ne.symm m3⟩, ⟨m4, Ne.symm m4⟩, m5, Ne.symm m5⟩
   have hca := hGr.cellsX
   have hoa := hGr.oneX
   simp only [go_sem, xP, xR, xS, H, N, M, q5]
   refine appB_sl (cs := p.flatMap stC) (m := p.length) (n := 1) (appT_sl el34 tk179 by179 el34 (by decide) rfl (by decide)) (hD.upd (hD.free hb7)) (hGr.upd hb7) rfl rfl (by omega) (fun a' σ3 hD3 hO3 hG3 => ?_)
   have w2 : σ3 b2 = some (.row [.v (.slice none 0 0)] 1 1) := by rw [hO3 b2 (hGr.neS q2 (by decide)) (by simp [upd, M, q2])]; simp [upd, M, q2]
   have w3 : σ3 b3 = some (.row [int 0] 1 1) := by rw [hO3 b3 (hGr.neS q3 (by decide)) (by simp [upd, M, q3])]; simp [upd, M, q3]
   have w4 : σ3 b4 = some (.row [int 0] 1 1) := by rw [hO3 b4 (hGr.neS q4 (by decide)) (by simp [upd, M, q4])]; simp [upd, M, q4]
   have w5 : σ3 b5 = some (.row [a] 1 1) := by rw [hO3 b5 (hGr.neS q5 (by decide)) (by simp [upd, M, q5])]; simp [upd, M, q5]
   have hc2 := hG3.cellsX
   have ho2 := hG3.oneX
   simp only [go_sem, xP, xR, xS, H, N, M, w2, w3, w4, w5, hc2, ho2]
   have hfit := stO_fit hst hWl
   refine ⟨?_, p ++ [st], a', ⟨by rw [hd1]; exact hz, by rw [hd1]; exact hrs, by simp only [List.length_append, List.length_cons, List.length_nil]; omega, fun x hx => ?_⟩, ?_⟩
   ·have k1 : Keep (KD lineC) σ' σ3 := ((Keep.refl _ _).upd (keep_none hb7)).trans (keep_app hO3 (hGr.upd hb7) (by decide))
    exact k1.trans (keep_cellN (Keep.refl _ _) w5 hGr.noStr)
   ·rcases List.mem_append.1 hx with hx | hx
    ·exact hfn x hx
    ·rw [List.mem_singleton.1 hx]; exact hfit
   have hg := hG3.updW (hG3.neS w5 (by decide)) (some (.row [a'] 1 1))
   refine ⟨rfl, ?_, hD3.upd hz5⟩
   simpa [stC, slI, int, ints] using hg
 ·rintro σ' r hr' ⟨p, a, ⟨hz, hne, hfl, hfn⟩, q2, q3, q4, q5, hGr, hD⟩ hd
  have hll : (linesX s).length = (linesR rows).length := by rw [hxs, List.length_map]
  rw [hll] at hz hne hfl
  have hlr := linesR_len rows
  rw [linesR_end rows hne] at hz
  have u2 : ¬ b2 = r := dn hd q2
  have u3' : ¬ b3 = r := dn hd q3
  have u4 : ¬ b4 = r := dn hd q4
  have u5 : ¬ b5 = r := dn hd q5
  have U : (¬ b2 = r ∧ ¬ r = b2) ∧ (¬ b3 = r ∧ ¬ r = b3) ∧ (¬ b4 = r ∧ ¬ r = b4) ∧ (¬ b5 = r ∧ ¬ r = b5) := ⟨⟨u2, Ne.symm u2⟩, ⟨u3', Ne.symm u3'⟩, ⟨u4, Ne.symm u4⟩, u5, Ne.symm u5⟩
  obtain ⟨m, hm⟩ : ∃ m, (linesR rows).length = m := ⟨_, rfl⟩
  rw [hm] at hz hne hfl
  have hca := hGr.cellsX
  have hoa := hGr.oneX
  have hbr : σ r = none := (un (un (un (un (un hr').2).2).2).2).2
  rw [parP_last] at hz
  rw [hz]
  simp only [go_sem, xP, xR, xS, N, U, q2, q3, q4, q5, hd, hca, hoa]
  refine callB_bor (f29 p 8 (by omega) (fun n hn => by have := hfn n hn; omega) hG1) rfl (.cons (.agg (.cons hGr.toNo2 .nil)) (.cons (.refl _) .nil)) ?_
  by_cases hck : checkFormE p 8 = 0
  ·rw [if_pos hck]
   simp only [go_sem, xP, xR, xS, N, U, q2, q3, q4, q5, hd, hck, hca, hoa, ers_upd]
   have hgf := (((hGr.updW (hGr.neS q2 (by decide)) (some (.row [a] 1 1))).updW (hGr.neS q3 (by decide)) (some (.row [int 0] 1 1))).updW (hGr.neS q4 (by decide)) (some (.row [int 0] 1 1))).updW (hGr.neO hd) none
   exact ⟨.tup (.cons (.agg (.cons (hgf.retP (by repeat (first | exact hD | refine Drop.upd ?_ (by assumption)))).1 .nil)) (.cons (.refl _) (.cons (.refl _) .nil))), by repeat (first | exact hD | refine Drop.upd ?_ (by assumption))⟩
  ·rw [if_neg hck]
   simp only [go_sem, xP, xR, xS, N, U, q2, q3, q4, q5, hd, hck, hca, hoa]
   refine frzB_grow2 5 b5 (by simp only [go_sem, xP, xR, xS]) q5 hGr (hGr.neS q5 (by decide)) (fun σf hDf hKf => ?_)
   have w2 : σf b2 = some (.row [.v (.slice none 0 0)] 1 1) := by rw [hKf b2 N.2.2.2.2.2.2 (hGr.neS q2 (by decide))]; exact q2
   have w3 : σf b3 = some (.row [int 0] 1 1) := by rw [hKf b3 N.2.2.2.2.1 (hGr.neS q3 (by decide))]; exact q3
   have w4 : σf b4 = some (.row [int 0] 1 1) := by rw [hKf b4 N.2.2.1 (hGr.neS q4 (by decide))]; exact q4
   have hdf : σf r = some (.obj (.deferred (some []))) := by rw [hKf r (fun e => u5 e.symm) (hGr.neO hd)]; exact hd
   have hDg : Drop σf σ := Drop.of fun b hb => by
    have hb5' : ¬ b = b5 := fun e => hb (e ▸ hz5)
    rw [hKf b hb5' (hGr.neB hb)]
    exact ((hD b).resolve_left hb).symm
   simp only [go_sem, xP, xR, xS, N, U, w2, w3, w4, hdf, hck, hfl, ers_upd]
   exact ⟨.tup (.cons (.agg (.cons .nil .nil)) (.cons (.refl _) (.cons (.refl _) .nil))), by repeat (first | exact hDg | refine Drop.upd ?_ (by assumption))⟩
 ·rintro e σ' r hr' ⟨i, ⟨rfl, hz⟩, q2, q3, q4, hD⟩ hd
  have u2 : ¬ b2 = r := dn hd q2
  have u3' : ¬ b3 = r := dn hd q3
  have u4 : ¬ b4 = r := dn hd q4
  have U : (¬ b2 = r ∧ ¬ r = b2) ∧ (¬ b3 = r ∧ ¬ r = b3) ∧ (¬ b4 = r ∧ ¬ r = b4) := ⟨⟨u2, Ne.symm u2⟩, ⟨u3', Ne.symm u3'⟩, u4, Ne.symm u4⟩
  have hbr : σ r = none := (un (un (un (un (un hr').2).2).2).2).2
  rw [hz]
  simp only [go_sem, xP, xR, xS, N, U, q2, q3, q4, hd, ers_upd]
  exact ⟨.tup (.cons (.agg (.cons .nil .nil)) (.cons (.refl _) (.cons (.refl _) .nil))), by repeat (first | exact hD | refine Drop.upd ?_ (by assumption))⟩
def RawS (cs : List AV) (l : List St) : Prop := ∀ σ1 σ2 : Sig, FzL σ1 σ2 cs (l.flatMap stC)
theorem RawS.nil : RawS [] [] := fun _ _ => .nil
theorem vars_of {p : List St} {n : Int} (h : checkFormE p n = 0) : ∃ m : Nat, n = m ∧ m ≤ 8 := by
 unfold checkFormE at h
 by_cases he : firstE [withinE n 0 8, whenE (decide ((p.length : Int) = 0)) 10, whenE (decide (127 < (p.length : Int))) 5] = 0
 ·have := within_zero ((firstE_zero _).1 he (withinE n 0 8) (by simp))
  exact ⟨n.toNat, by omega, by omega⟩
 ·rw [if_neg he] at h; exact absurd h he
theorem printP_len {p : List St} {m : Nat} (hm : m ≤ 1000) (h : checkFormE p m = 0) : (p.flatMap lineS).length ≤ 3700 * 127 := by
 have hl := (form_ok h).2.1
 have : ∀ l : List St, (∀ s ∈ l, (lineS s).length ≤ 3700) → (l.flatMap lineS).length ≤ 3700 * l.length := fun l => by
  induction l with
  | nil => intro _; simp
  | cons n l ih =>
   intro h
   have h1 := ih fun m hm => h m (List.mem_cons_of_mem _ hm)
   have h2 := h n (by simp)
   simp only [List.flatMap_cons, List.length_append, List.length_cons]
   omega
 have := this p fun s hs => by
  obtain ⟨i, hi⟩ := List.mem_iff_getElem?.1 hs
  exact lineS_len (stepE_all h i s hi) hm (by have := lt_of_getElem? hi; omega)
 omega
theorem lineOk_of {s : St} (h : (lineS s).length ≤ 3700) : LineOk itoaP s := by
 have e := lineP_data s
 have e2 : (lineP itoaP s).data.toList = Lib.join (((if s.leaf then bLeaf else bSplit) :: (lineL s).map itoaP).map (·.data.toList)) bSp.data.toList ++ [10] := by
  simp [lineP, joinP, bNl]
 have e3 := congrArg List.length (e.symm.trans e2)
 rw [List.length_append] at e3
 show _ ≤ 140737488355328
 omega
theorem f95i (hG1 : Γ 1 = some [int 0, int 0]) (hG3 : Γ 3 = some kindsT) (hG5 : Γ 5 = some powT) (p : List St) (n : Int) (hp : Fits p.length) (hpc : ∀ s ∈ p, s.factors.length ≤ 1000000) :
  PCalls Tryz.prog Γ 95 [prA p, int n] (.tup [str (if checkFormE p n = 0 then printP itoaP p else ⟨#[]⟩), int (checkFormE p n)]) := by
 by_cases h : checkFormE p n = 0
 ·obtain ⟨m, rfl, hm⟩ := vars_of h
  have hst := stepE_all h
  have hl := (form_ok h).2.1
  have hmem : ∀ s ∈ p, ∃ i, i ≤ 127 ∧ stepE s (i : Nat) m = 0 := fun s hs => by
   obtain ⟨i, hi⟩ := List.mem_iff_getElem?.1 hs
   exact ⟨i, by have := lt_of_getElem? hi; omega, hst i s hi⟩
  refine f95 itoaP p m hp hpc hG1 hG3 (fun s hs x hx => ?_) (fun s hs => ?_) ?_
  ·obtain ⟨i, hi, hz⟩ := hmem s hs
   have := (step_nums hz (by omega) (by omega)).2 x hx
   exact dcall_of (f238 hG5 x (by omega) (by omega)) rfl
  ·obtain ⟨i, hi, hz⟩ := hmem s hs
   exact lineOk_of (lineS_len hz (by omega) (by omega))
  ·have e := printP_data p
   have e2 : (printP itoaP p).data.toList = Lib.join ((p.map (lineP itoaP)).map (·.data.toList)) [] := rfl
   rw [← e2, e]
   have := printP_len (by omega) h
   omega
 ·rw [if_neg h]
  refine pcalls (ok95 Γ) fun σ => ?_
  simp only [go_sem, xP, xR, xS, Tryz.f95]
  refine callB_use (f29 p n hp (fun s hs => by have := hpc s hs; omega) hG1) rfl ?_
  simp only [go_sem, xP, xR, xS, h]
end Go.AL

namespace Go.AL
open Go.Proofs
theorem tm_check {t : Tm} {m : Nat} (h : TmOk t m) : checkTermE t m = 0 := by
 have h8 := h.le
 have hl := h.len
 refine (firstE_zero _).2 fun x hx => ?_
 simp only [List.mem_cons, List.not_mem_nil, or_false] at hx
 rcases hx with rfl | rfl | rfl
 ·unfold withinE; rw [if_neg (by omega)]
 ·simp [whenE, hl]
 ·refine (firstE_zero _).2 fun x hx => ?_
  simp only [List.mem_cons, List.not_mem_nil, or_false] at hx
  rcases hx with rfl | rfl
  ·refine (firstE_zero _).2 fun x hx => ?_
   obtain ⟨c, hc, rfl⟩ := List.mem_map.1 hx
   have := h.cs c hc
   unfold withinE; rw [if_neg (by omega)]
  ·have := h.lo
   have := h.hi
   unfold withinE; rw [if_neg (by omega)]
theorem terms_check {c : List Tm} {m : Nat} (hne : c ≠ []) (hl : c.length ≤ 40) (h : ∀ t ∈ c, TmOk t m) : checkTermsE c = 0 ∧ varsOf c = m := by
 obtain ⟨t, l, rfl⟩ := List.exists_cons_of_ne_nil hne
 have hv : varsOf (t :: l) = m := (h t List.mem_cons_self).len
 refine ⟨?_, hv⟩
 unfold checkTermsE
 simp only [vars_head, hv]
 rw [if_pos]
 ·refine (firstE_zero _).2 fun x hx => ?_
  obtain ⟨u, hu, rfl⟩ := List.mem_map.1 hx
  exact tm_check (h u hu)
 ·refine (firstE_zero _).2 fun x hx => ?_
  simp only [List.mem_cons, List.not_mem_nil, or_false] at hx
  rcases hx with rfl | rfl
  ·have : ¬ (((t :: l).length : Nat) : Int) = 0 := by simp only [List.length_cons]; omega
   rw [whenE, decide_eq_false this]; rfl
  ·have : ¬ (40 : Int) < (((t :: l).length : Nat) : Int) := by omega
   rw [whenE, decide_eq_false this]; rfl
theorem pair_no {c : List Tm} {m : Nat} (hl : c.length ≤ 32) (h : ∀ t ∈ c, TmOk t m) (hp : (pairP c).2 = true) : (checkP c (pairP c).1).2 = 0 ∧ ∀ vs : List Int, vs.length = m → ¬ ∀ t ∈ c, 0 ≤ valX t vs := by
 have hne : c ≠ [] := fun e => by subst e; rw [pairP_nil rfl] at hp; cases hp
 obtain ⟨hc, hv⟩ := terms_check hne (by omega) h
 have hpp := hp
 unfold pairP at hp
 cases hpa : pairAt c with
 | none => rw [hpa] at hp; cases hp
 | some is =>
  have h1 := check_pair hc hpa
  have e : (pairP c).1 = [leafSt c.length is] := by rw [pairP, hpa]
  rw [e]
  exact ⟨h1, fun vs hvs => check_sound h1 (by rw [hv]; exact hvs)⟩
theorem pvL_some : ∀ (C : List (List Tm)) (acc l : List (List St)), pvL C acc = some l → l = acc ++ C.map (fun c => (pairP c).1) ∧ ∀ c ∈ C, (pairP c).2 = true
 | [], acc, l, h => by
  rw [pvL] at h
  cases h
  exact ⟨by simp, fun c hc => by cases hc⟩
 | c :: C, acc, l, h => by
  rw [pvL] at h
  split at h
  ·obtain ⟨h1, h2⟩ := pvL_some C _ l h
   refine ⟨by rw [h1]; simp, fun x hx => ?_⟩
   rcases List.mem_cons.1 hx with rfl | hx
   ·assumption
   ·exact h2 x hx
  ·cases h
theorem cfL_all : ∀ (C : List (List Tm)) (i : Nat), (∀ c ∈ C, (checkP c (pairP c).1).2 = 0) → cfL C (C.map fun c => (pairP c).1) i = (0, 0)
 | [], i, h => rfl
 | c :: C, i, h => by
  rw [List.map_cons, cfL, if_pos (h c List.mem_cons_self)]
  exact cfL_all C (i + 1) fun x hx => h x (List.mem_cons_of_mem _ hx)
theorem allP_X {c : List Tm} {m : Nat} (h : ∀ t ∈ c, TmOk t m) {vs : List Int} (hv : Val vs) : allP vs c = true ↔ ∀ t ∈ c, 0 ≤ valX t vs := by
 unfold allP
 rw [List.all_eq_true]
 exact ⟨fun k t ht => by have := k t ht; rw [decide_eq_true_eq, valueR_eq (h t ht) hv] at this; exact this, fun k t ht => by rw [decide_eq_true_eq, valueR_eq (h t ht) hv]; exact k t ht⟩
theorem anyP_no {C : List (List Tm)} {m : Nat} (h : ∀ c ∈ C, ∀ t ∈ c, TmOk t m) {vs : List Int} (hv : Val vs) (hn : ∀ c ∈ C, ¬ ∀ t ∈ c, 0 ≤ valX t vs) : anyP vs C = false := by
 unfold anyP
 rw [List.any_eq_false]
 exact fun c hc k => hn c hc ((allP_X (h c hc) hv).1 k)
theorem anyP_yes {C : List (List Tm)} {m : Nat} (h : ∀ c ∈ C, ∀ t ∈ c, TmOk t m) {vs : List Int} (hv : Val vs) (hn : ∃ c ∈ C, ∀ t ∈ c, 0 ≤ valX t vs) : anyP vs C = true := by
 obtain ⟨c, hc, k⟩ := hn
 unfold anyP
 rw [List.any_eq_true]
 exact ⟨c, hc, (allP_X (h c hc) hv).2 k⟩
theorem inS_low {sp : List Rg} (hV : Vs sp) : InS (sp.map (·.lo)) sp := ⟨by simp, fun i v r h1 h2 => by
 rw [List.getElem?_map, h2] at h1
 cases h1
 have := hV r (List.mem_of_getElem? h2)
 exact ⟨Int.le_refl _, this.2.1⟩⟩
theorem findL_right {m : Nat} {sp : List Rg} (hs : sp.length = m) (hV : Vs sp) {n : Int} (hn : 1 ≤ n) : ∀ C : List (List Tm), (∀ c ∈ C, ∀ t ∈ c, TmOk t m) →
  ((findL n sp C).2.1 = true → InS (findL n sp C).1 sp ∧ ∃ c ∈ C, ∀ t ∈ c, 0 ≤ valX t (findL n sp C).1) ∧
  ((findL n sp C).2.1 = false → (findL n sp C).2.2 = 0 → (findL n sp C).1 = [] ∧ ∀ vs, InS vs sp → ∀ c ∈ C, ¬ ∀ t ∈ c, 0 ≤ valX t vs) ∧
  ((findL n sp C).2.2 = 0 ∨ (findL n sp C).2.2 = 30)
 | [], h => ⟨fun k => (by cases k), fun _ _ => ⟨rfl, fun vs _ c hc => by cases hc⟩, .inl rfl⟩
 | c :: C, h => by
  rw [findL]
  by_cases h0 : (c.length : Int) = 0
  ·rw [if_pos h0]
   have e : c = [] := List.eq_nil_of_length_eq_zero (by omega)
   subst e
   exact ⟨fun _ => ⟨inS_low hV, [], List.mem_cons_self, fun t ht => by cases ht⟩, fun k => (by cases k), .inl rfl⟩
  ·rw [if_neg h0]
   have hc := h c List.mem_cons_self
   obtain ⟨r1, r2, r3⟩ := seekP_right hc (n.toNat + 1) n sp (by omega) (by omega) hs hV
   obtain ⟨i1, i2, i3⟩ := findL_right hs hV hn C fun x hx => h x (List.mem_cons_of_mem _ hx)
   by_cases hq : (seekP c (n.toNat + 1) n sp).is = true ∨ ¬ (seekP c (n.toNat + 1) n sp).err = 0
   ·rw [if_pos hq]
    refine ⟨fun k => ?_, fun k ke => ?_, r3⟩
    ·obtain ⟨a, b⟩ := r1 k
     exact ⟨a, c, List.mem_cons_self, (model_val hc (a.val hV)).1 b⟩
    ·rcases hq with hq | hq
     ·exact absurd (hq.symm.trans k) (by decide)
     ·exact absurd ke hq
   ·rw [if_neg hq]
    have q1 : (seekP c (n.toNat + 1) n sp).is = false := by
     cases hh : (seekP c (n.toNat + 1) n sp).is
     ·rfl
     ·exact absurd (.inl hh) hq
    have q2 : (seekP c (n.toNat + 1) n sp).err = 0 := by
     by_cases hh : (seekP c (n.toNat + 1) n sp).err = 0
     ·exact hh
     ·exact absurd (.inr hh) hq
    refine ⟨fun k => ?_, fun k ke => ?_, i3⟩
    ·obtain ⟨a, x, hx, b⟩ := i1 k
     exact ⟨a, x, List.mem_cons_of_mem _ hx, b⟩
    ·obtain ⟨a, b⟩ := i2 k ke
     refine ⟨a, fun vs hvs x hx => ?_⟩
     rcases List.mem_cons.1 hx with rfl | hx
     ·exact r2 q1 q2 vs hvs
     ·exact b vs hvs x hx
def nearR (v : Int) : Rg := ⟨max (-4294967295) (v - 1), min 4294967295 (v + 1)⟩
def nearL (vs : List Int) : List Rg := vs.map nearR
theorem nearL_vs {vs : List Int} (h : Val vs) : Vs (nearL vs) := fun r hr => by
 obtain ⟨v, hv, rfl⟩ := List.mem_map.1 hr
 have := h v hv
 simp only [nearR]
 omega
theorem nearL_in {vs : List Int} (h : Val vs) : InS vs (nearL vs) := ⟨by simp [nearL], fun i v r h1 h2 => by
 rw [nearL, List.getElem?_map, h1] at h2
 cases h2
 have := h v (List.mem_of_getElem? h1)
 simp only [nearR]
 omega⟩
def provedE (f : Fm) : Int := if (casesR f).2 = 0 then (pvR (casesR f).1).2 else (casesR f).2
def provedM (f : Fm) : List (List St) := if (casesR f).2 = 0 then (pvR (casesR f).1).1 else []
structure NeverF (f : Fm) (vs : List Int) : Prop where
 proved : provedE f = 0 → holdsB f vs = false ∧ (cfR f (provedM f)).2 = 0 ∧ (casesR f).2 = 0
 fitM : (provedM f).length ≤ 64 ∧ ∀ p ∈ provedM f, FitP p
 search : (casesR f).2 = 0 → findE f (nearL vs) 60 = 0 ∧ ((findL 60 (nearL vs) (casesR f).1).2.2 = 0 ∨ (findL 60 (nearL vs) (casesR f).1).2.2 = 30) ∧
  ((findL 60 (nearL vs) (casesR f).1).2.2 = 0 → ((findL 60 (nearL vs) (casesR f).1).2.1 = false → (findL 60 (nearL vs) (casesR f).1).1 = [] ∧ holdsB f vs = false) ∧
   ((findL 60 (nearL vs) (casesR f).1).2.1 = true → ¬ provedE f = 0 ∧ valuesE (findL 60 (nearL vs) (casesR f).1).1 f.vars = 0 ∧ holdsB f (findL 60 (nearL vs) (casesR f).1).1 = true))
theorem neverF {f : Fm} {vs : List Int} (h : checkE f = 0) (hv : valuesE vs f.vars = 0) : NeverF f vs := by
 obtain ⟨hne, hl200, hv0, hv8, hok⟩ := check_ok h
 have hvv : f.vars = (f.vars.toNat : Int) := by omega
 generalize hm : f.vars.toNat = m at hvv
 have hv' := hv
 rw [hvv] at hv'
 obtain ⟨hvl, hval⟩ := values_ok.1 hv'
 have hpv : provedE f = 0 → (casesR f).2 = 0 ∧ provedM f = (casesR f).1.map (fun c => (pairP c).1) ∧ ∀ c ∈ (casesR f).1, (pairP c).2 = true := fun he => by
  unfold provedE at he
  by_cases hc : (casesR f).2 = 0
  ·rw [if_pos hc, pvR] at he
   have hM : provedM f = (pvR (casesR f).1).1 := if_pos hc
   rw [hM, pvR]
   cases hp : pvL (casesR f).1 [] with
   | none => rw [hp] at he; cases he
   | some l =>
    obtain ⟨h1, h2⟩ := pvL_some _ _ _ hp
    exact ⟨hc, by simpa using h1, h2⟩
  ·rw [if_neg hc] at he
   exact absurd he hc
 have hcs : (casesR f).2 = 0 → ∀ c ∈ (casesR f).1, c.length ≤ 32 ∧ ∀ t ∈ c, TmOk t m := fun hc => by
  have := (cases_tm h hc).2
  rwa [hm] at this
 refine ⟨fun he => ?_, ?_, fun hc => ?_⟩
 ·obtain ⟨hc, hM, hP⟩ := hpv he
  have hno : ∀ c ∈ (casesR f).1, (checkP c (pairP c).1).2 = 0 ∧ ∀ vs : List Int, vs.length = m → ¬ ∀ t ∈ c, 0 ≤ valX t vs := fun c hcc => pair_no (hcs hc c hcc).1 (hcs hc c hcc).2 (hP c hcc)
  refine ⟨?_, ?_, hc⟩
  ·rw [← (cases_mean h hv hc).1]
   exact anyP_no (fun c hcc => (hcs hc c hcc).2) hval fun c hcc => (hno c hcc).2 vs hvl
  ·have hE : cfE f (provedM f) = 0 := by
    rw [cfE_len hc, if_pos]
    rw [hM, List.length_map]
   rw [cfR, if_pos hE, hM, cfL_all _ 0 fun c hcc => (hno c hcc).1]
 ·by_cases hc : (casesR f).2 = 0
  ·have hM : provedM f = (pvR (casesR f).1).1 := if_pos hc
   have h64 := (cases_tm h hc).1
   rw [hM, pvR]
   cases hp : pvL (casesR f).1 [] with
   | none => exact ⟨Nat.zero_le _, fun p hp => by cases hp⟩
   | some l =>
    obtain ⟨h1, h2⟩ := pvL_some _ _ _ hp
    rw [h1]
    refine ⟨by simpa using h64, fun p hp => ?_⟩
    simp only [List.nil_append] at hp
    obtain ⟨c, hcc, rfl⟩ := List.mem_map.1 hp
    exact pairP_fits c (by have := (hcs hc c hcc).1; omega)
  ·have hM : provedM f = [] := if_neg hc
   rw [hM]
   exact ⟨Nat.zero_le _, fun p hp => by cases hp⟩
 ·have hV := nearL_vs hval
  have hI := nearL_in hval
  have hsl : (nearL vs).length = m := by rw [nearL, List.length_map, hvl]
  have hE : findE f (nearL vs) 60 = 0 := (firstE_zero _).2 fun x hx => by
   simp only [List.mem_cons, List.not_mem_nil, or_false] at hx
   rcases hx with rfl | rfl | rfl
   ·exact hc
   ·rw [hvv]; exact spansE_ok hsl hV
   ·rfl
  have hT : ∀ c ∈ (casesR f).1, ∀ t ∈ c, TmOk t m := fun c hcc => (hcs hc c hcc).2
  obtain ⟨r1, r2, r3⟩ := findL_right hsl hV (n := 60) (by decide) _ hT
  refine ⟨hE, r3, fun he => ⟨fun hf => ?_, fun hf => ?_⟩⟩
  ·obtain ⟨a, b⟩ := r2 hf he
   refine ⟨a, ?_⟩
   rw [← (cases_mean h hv hc).1]
   exact anyP_no hT hval (b vs hI)
  ·obtain ⟨a, b⟩ := r1 hf
   have hMv : valuesE (findL 60 (nearL vs) (casesR f).1).1 f.vars = 0 := by
    rw [hvv]
    exact values_ok.2 ⟨a.1.trans hsl, a.val hV⟩
   refine ⟨fun he4 => ?_, hMv, ?_⟩
   ·obtain ⟨_, _, hP⟩ := hpv he4
    obtain ⟨c, hcc, hk⟩ := b
    exact (pair_no (hcs hc c hcc).1 (hcs hc c hcc).2 (hP c hcc)).2 _ (a.1.trans hsl) hk
   ·rw [← (cases_mean h hMv hc).1]
    exact anyP_yes hT (a.val hV) b
theorem short_size {p : List St} (hb : shortB p = true) (h : checkFormE p 8 = 0) : (printP itoaP p).size ≤ 16384 := by
 have hl := (form_ok (m := 8) h).2.1
 have hst := stepE_all (m := 8) h
 unfold shortB at hb
 rw [Bool.and_eq_true, Bool.or_eq_true, decide_eq_true_eq, decide_eq_true_eq, List.all_eq_true] at hb
 have h12 : p.length ≤ 12 := by omega
 have hline : ∀ s ∈ p, (lineS s).length ≤ 358 := fun s hs => by
  obtain ⟨i, hi⟩ := List.mem_iff_getElem?.1 hs
  obtain ⟨a, b⟩ := step_nums (hst i s hi) (by decide) (by have := lt_of_getElem? hi; omega)
  have h16 : (lineL s).length ≤ 16 := by
   have hsb := hb.1 s hs
   unfold shortStepB at hsb
   rw [Bool.or_eq_true, decide_eq_true_eq, decide_eq_true_eq] at hsb
   unfold lineL at a ⊢
   cases hlf : s.leaf with
   | true => rw [hlf] at a; simp only [if_true] at a ⊢; omega
   | false => simp
  have := numsB_len b
  have := wordS_len s
  simp only [lineS, bodyS, List.length_append, List.length_cons, List.length_nil]
  omega
 have key : ∀ l : List St, (∀ s ∈ l, (lineS s).length ≤ 358) → (l.flatMap lineS).length ≤ 358 * l.length := fun l => by
  induction l with
  | nil => intro _; simp
  | cons n l ih =>
   intro h
   have h1 := ih fun m hm => h m (List.mem_cons_of_mem _ hm)
   have h2 := h n (by simp)
   simp only [List.flatMap_cons, List.length_append, List.length_cons]
   omega
 have := key p hline
 rw [printP_bts, bts_size]
 omega
variable {Γ : Glob}
attribute [local irreducible] codeW opsW dopsW
@[reducible] noncomputable def p15z (Γ : Glob) : Par := par Γ [9] [(5, [false, false, false, false, false, false, false, false, false, false, false, false, true]), (1000024, [true])] [(5, [0, 1, 3, 7, 15, 31, 63, 127, 255, 511, 1023, 2047, 4095, 2047, 16383, 32767, 65535])]
theorem ok15z (Γ : Glob) : FnOk (p15z Γ) 15 199 (Tryz.f15.body.getD .skip) Tryz.f15.results.toList 3 := fnOk (par_mixed _ _ _ _) Tryz.func15 rfl rfl rfl (by kernel_rfl) (Nat.le_of_ble_eq_true rfl) (by kernel_rfl)
theorem near_lo {v : Int} (h : -4294967295 ≤ v ∧ v ≤ 4294967295) : (if -4294967295 < IntKind.i64.wrap (v - 1) then IntKind.i64.wrap (v - 1) else -4294967295) = (nearR v).lo := by
 rw [wrap_i64 _ (by omega) (by omega)]
 simp only [nearR]
 split <;> omega
theorem near_hi {v : Int} (h : -4294967295 ≤ v ∧ v ≤ 4294967295) : (if IntKind.i64.wrap (v + 1) < 4294967295 then IntKind.i64.wrap (v + 1) else 4294967295) = (nearR v).hi := by
 rw [wrap_i64 _ (by omega) (by omega)]
 simp only [nearR]
 split <;> omega
set_option maxHeartbeats 8000000 in
set_option maxRecDepth 20000 in
theorem f15 (hG : Γ 0 = some sortsT) (hG1 : Γ 1 = some [int 0, int 0]) (hG2 : Γ 2 = some [int 0, int 0]) (hG3 : Γ 3 = some kindsT) (hG5 : Γ 5 = some powT) (f : Fm) (vs : List Int) (p : List St) (hl : f.nodes.length ≤ 9223372036854775807) (hvl : vs.length ≤ 9223372036854775807) (hlp : p.length ≤ 9223372036854775807) : PCalls Tryz.prog Γ 15 [fmA f, slI vs, prA p] (.v (.bool true)) := by
 have c30 : ((30 : Int) = 0) = False := eq_false (by decide)
 refine pcalls (ok15z Γ) fun σ => ?_
 by_cases s1 : shortFB f = true
 ·obtain ⟨hn1, hc1⟩ := short_fitM s1
  simp only [go_sem, xP, xR, xS, Tryz.f15]
  refine callB_use (f39 f hl) rfl ?_
  simp only [go_sem, xP, xR, xS, s1]
  refine callB_use (f44 f (by omega) hc1) rfl ?_
  simp only [go_sem, xP, xR, xS, s1]
  by_cases c1 : checkE f = 0
  ·obtain ⟨hne, hl200, hv0, hv8, hN⟩ := check_ok c1
   simp only [go_sem, xP, xR, xS, s1, c1]
   refine callB_use (f48 f (by omega) hne hN) rfl ?_
   simp only [go_sem, xP, xR, xS, s1, c1]
   cases sm : smallB f
   ·simp only [go_sem, xP, xR, xS, s1, c1, sm]
    refine callB_use (f22 hG1 hG3) rfl ?_
    simp only [go_sem, xP, xR, xS]
   ·simp only [go_sem, xP, xR, xS, s1, c1, sm]
    refine callB_use (f45 vs f.vars (by intro h; omega)) rfl ?_
    simp only [go_sem, xP, xR, xS, s1, c1, sm]
    by_cases vv : valuesE vs f.vars = 0
    ·simp only [go_sem, xP, xR, xS, s1, c1, sm, vv]
     refine callB_use (f21 p hlp) rfl ?_
     simp only [go_sem, xP, xR, xS, s1, c1, sm, vv]
     cases sp : shortB p
     ·simp only [go_sem, xP, xR, xS, s1, c1, sm, vv, sp]
      refine callB_use (f22 hG1 hG3) rfl ?_
      simp only [go_sem, xP, xR, xS]
     ·obtain ⟨b1, b2⟩ := short_ok sp
      have hc : ∀ s ∈ p, Fits s.factors.length := fun s hs => by have := b2 s hs; omega
      have hc3 : ∀ s ∈ p, s.factors.length ≤ 1000000 := fun s hs => by have := b2 s hs; omega
      simp only [go_sem, xP, xR, xS, s1, c1, sm, vv, sp]
      refine callB_use (f30 p 8 (by omega) hc fun s hs n v => f126 s n v (hc s hs)) rfl ?_
      rw [← checkForm_eq]
      by_cases cf : checkFormE p 8 = 0
      ·obtain ⟨hvn, hval⟩ := values_okM vv
       have hNF := neverF c1 vv
       obtain ⟨hm64, hmF⟩ := hNF.fitM
       have hpz := short_size sp cf
       have h96 := f96 (Γ := Γ) hG1 hG3 (printP itoaP p) (by omega)
       rw [proof_back cf hpz] at h96
       have h50 := f50 (Γ := Γ) f (by omega) hc1 hne hN
       rw [← cases_eq c1] at h50
       have h97 := f97 (Γ := Γ) hG hG2 f (by omega) hc1
       rw [show (if (casesR f).2 = 0 then (pvR (casesR f).1).1 else []) = provedM f from rfl, show (if (casesR f).2 = 0 then (pvR (casesR f).1).2 else (casesR f).2) = provedE f from rfl] at h97
       simp only [go_sem, xP, xR, xS, s1, c1, sm, vv, sp, cf]
       refine callB_use (f25 p (by omega) hc) rfl ?_
       simp only [go_sem, xP, xR, xS]
       refine callB_use (f95i hG1 hG3 hG5 p 8 (by omega) hc3) rfl ?_
       simp only [go_sem, xP, xR, xS, cf]
       refine callB_use (h96) rfl ?_
       simp only [go_sem, xP, xR, xS]
       intro b9 hb9
       simp only [go_sem, xP, xR, xS]
       refine dcallB_use (f91 p (by omega)) rfl ?_
       simp only [go_sem, xP, xR, xS]
       refine callB_use (f90 p p (by omega) hc) rfl ?_
       simp only [go_sem, xP, xR, xS, decide_true]
       refine callB_use (f93 f (by omega) hc1) rfl ?_
       simp only [go_sem, xP, xR, xS]
       refine callB_use (f84 vs (by omega)) rfl ?_
       simp only [go_sem, xP, xR, xS]
       refine callB_use (f41ok hG c1 vv hc1) rfl ?_
       simp only [go_sem, xP, xR, xS]
       refine callB_use (f93 f (by omega) hc1) rfl ?_
       simp only [go_sem, xP, xR, xS]
       refine callB_use (h97) rfl ?_
       simp only [go_sem, xP, xR, xS]
       by_cases he4 : provedE f = 0
       ·obtain ⟨m1, m2, m3⟩ := hNF.proved he4
        simp only [go_sem, xP, xR, xS, he4, m1]
        refine callB_use (f93 f (by omega) hc1) rfl ?_
        simp only [go_sem, xP, xR, xS]
        refine callB_use (f98 hG hG1 hG2 f (provedM f) (by omega) hc1 (by omega) hmF) rfl ?_
        simp only [go_sem, xP, xR, xS, m2]
        refine SemC.loopK mixed vs.length (fun k ρ σ' ds => ds = [] ∧ (ρ 3 = .pp (fmC f) 0 ∧ ρ 12 = .v (.bool (holdsB f vs)) ∧ ρ 15 = int (provedE f) ∧ ρ 122 = slI vs ∧ ρ 123 = int vs.length) ∧ ρ 124 = int k ∧ Drop σ' σ ∧ Grow σ σ' 2 (ρ 18) ((nearL (vs.take k)).flatMap rgC) k) (by kernel_rfl) ?_ ?_
        ·refine ⟨rfl, by simp only [go_sem, xP, xR, xS, slI, fmC, slN, he4, m1], rfl, ?_, .nil _ _ _⟩
         repeat (first | exact Drop.refl _ | assumption | refine Drop.upd ?_ (by assumption))
        rintro k ρ σ' ds hk ⟨rfl, H, h124, hD, hGr⟩
        obtain ⟨a, ha⟩ : ∃ a, ρ 18 = a := ⟨_, rfl⟩
        rw [ha] at hGr
        rcases get_or_end vs k hk with ⟨v, hx, hltk, hdk⟩ | hk
        ·have hvb := hval v (mem_of_get hx)
         have hgx : (ints vs)[k]? = some (int v) := by rw [ints, List.getElem?_map, hx]; rfl
         simp only [go_sem, xP, xR, xS, H, h124, hltk, hgx, slI, ha, near_lo hvb, near_hi hvb]
         refine appB_sl (appT_sl el49 tk91 by91 el49 (by decide) rfl (by decide)) hD hGr rfl rfl (by omega) (fun a' σ2 hD2 hO hG2 => ?_)
         simp only [go_sem, xP, xR, xS, H, h124]
         refine ⟨by rw [wrap_succ _ (by omega)], hD2, ?_⟩
         have e : nearL (vs.take (k + 1)) = nearL (vs.take k) ++ [nearR v] := by rw [take_succ hx, nearL, List.map_append]; rfl
         rw [e, List.flatMap_append]
         simpa [rgC, int] using hG2
        ·subst hk
         rw [List.take_length] at hGr
         have hnl : (nearL vs).length = vs.length := by rw [nearL, List.length_map]
         simp only [go_sem, xP, xR, xS, H, h124, Nat.lt_irrefl]
         refine callB_use (h50) rfl ?_
         simp only [go_sem, xP, xR, xS]
         by_cases hq : (casesR f).2 = 0
         ·by_cases h8 : (8 : Int) < (casesR f).1.length
          ·simp only [go_sem, xP, xR, xS, H, hq, h8, slC]
           refine callB_use (f22 hG1 hG3) rfl ?_
           simp only [go_sem, xP, xR, xS]
           exact retP_drop hD rfl
          ·simp only [go_sem, xP, xR, xS, H, hq, h8, slC]
           refine frzB_grow 18 (by simp only [go_sem, xP, xR, xS, H, ha]) hGr hD (fun σ2 hD2 _ => ?_)
           have e18 : AV.sl ((nearL vs).flatMap rgC) vs.length = slR (nearL vs) := by rw [slR, hnl]
           rw [e18]
           obtain ⟨hE, h30, hrest⟩ := hNF.search hq
           have h92 := f92 (Γ := Γ) hG hG2 f (nearL vs) 60 (by omega) hc1 (by rw [hnl]; omega)
           rw [hE, if_pos rfl, if_pos rfl, if_pos rfl] at h92
           generalize findL 60 (nearL vs) (casesR f).1 = R at h30 hrest h92
           obtain ⟨M, fd, er⟩ := R
           simp only at h30 hrest h92
           simp only [go_sem, xP, xR, xS, H]
           refine callB_use (f93 f (by omega) hc1) rfl ?_
           simp only [go_sem, xP, xR, xS, H]
           refine callB_use (h92) rfl ?_
           simp only [go_sem, xP, xR, xS, H]
           rcases h30 with rfl | rfl
           ·obtain ⟨i1, i2⟩ := hrest rfl
            cases fd
            ·obtain ⟨rfl, j2⟩ := i1 rfl
             simp only [go_sem, xP, xR, xS, H, j2]
             refine callB_use (f22 hG1 hG3) rfl ?_
             simp only [go_sem, xP, xR, xS]
             exact retP_drop hD2 rfl
            ·obtain ⟨j1, j2, j3⟩ := i2 rfl
             have hMl := (values_okM j2).1
             simp only [go_sem, xP, xR, xS, H]
             refine callB_use (f93 f (by omega) hc1) rfl ?_
             simp only [go_sem, xP, xR, xS, H]
             refine callB_use (f84 M (by omega)) rfl ?_
             simp only [go_sem, xP, xR, xS, H]
             refine callB_use (f41ok hG c1 j2 hc1) rfl ?_
             simp only [go_sem, xP, xR, xS, H, j1, j3]
             refine callB_use (f22 hG1 hG3) rfl ?_
             simp only [go_sem, xP, xR, xS]
             exact retP_drop hD2 rfl
           ·simp only [go_sem, xP, xR, xS, H, c30]
            refine callB_use (f22 hG1 hG3) rfl ?_
            simp only [go_sem, xP, xR, xS]
            exact retP_drop hD2 rfl
         ·simp only [go_sem, xP, xR, xS, H, hq]
          refine callB_use (f22 hG1 hG3) rfl ?_
          simp only [go_sem, xP, xR, xS]
          exact retP_drop hD rfl
       ·simp only [go_sem, xP, xR, xS, he4]
        cases hhv : holdsB f vs
        ·simp only [go_sem, xP, xR, xS, he4, hhv]
         refine SemC.loopK mixed vs.length (fun k ρ σ' ds => ds = [] ∧ (ρ 3 = .pp (fmC f) 0 ∧ ρ 12 = .v (.bool (holdsB f vs)) ∧ ρ 15 = int (provedE f) ∧ ρ 122 = slI vs ∧ ρ 123 = int vs.length) ∧ ρ 124 = int k ∧ Drop σ' σ ∧ Grow σ σ' 2 (ρ 18) ((nearL (vs.take k)).flatMap rgC) k) (by kernel_rfl) ?_ ?_
         ·refine ⟨rfl, by simp only [go_sem, xP, xR, xS, slI, fmC, slN, he4, hhv], rfl, ?_, .nil _ _ _⟩
          repeat (first | exact Drop.refl _ | assumption | refine Drop.upd ?_ (by assumption))
         rintro k ρ σ' ds hk ⟨rfl, H, h124, hD, hGr⟩
         obtain ⟨a, ha⟩ : ∃ a, ρ 18 = a := ⟨_, rfl⟩
         rw [ha] at hGr
         rcases get_or_end vs k hk with ⟨v, hx, hltk, hdk⟩ | hk
         ·have hvb := hval v (mem_of_get hx)
          have hgx : (ints vs)[k]? = some (int v) := by rw [ints, List.getElem?_map, hx]; rfl
          simp only [go_sem, xP, xR, xS, H, h124, hltk, hgx, slI, ha, near_lo hvb, near_hi hvb]
          refine appB_sl (appT_sl el49 tk91 by91 el49 (by decide) rfl (by decide)) hD hGr rfl rfl (by omega) (fun a' σ2 hD2 hO hG2 => ?_)
          simp only [go_sem, xP, xR, xS, H, h124]
          refine ⟨by rw [wrap_succ _ (by omega)], hD2, ?_⟩
          have e : nearL (vs.take (k + 1)) = nearL (vs.take k) ++ [nearR v] := by rw [take_succ hx, nearL, List.map_append]; rfl
          rw [e, List.flatMap_append]
          simpa [rgC, int] using hG2
         ·subst hk
          rw [List.take_length] at hGr
          have hnl : (nearL vs).length = vs.length := by rw [nearL, List.length_map]
          simp only [go_sem, xP, xR, xS, H, h124, Nat.lt_irrefl]
          refine callB_use (h50) rfl ?_
          simp only [go_sem, xP, xR, xS]
          by_cases hq : (casesR f).2 = 0
          ·by_cases h8 : (8 : Int) < (casesR f).1.length
           ·simp only [go_sem, xP, xR, xS, H, hq, h8, slC]
            refine callB_use (f22 hG1 hG3) rfl ?_
            simp only [go_sem, xP, xR, xS]
            exact retP_drop hD rfl
           ·simp only [go_sem, xP, xR, xS, H, hq, h8, slC]
            refine frzB_grow 18 (by simp only [go_sem, xP, xR, xS, H, ha]) hGr hD (fun σ2 hD2 _ => ?_)
            have e18 : AV.sl ((nearL vs).flatMap rgC) vs.length = slR (nearL vs) := by rw [slR, hnl]
            rw [e18]
            obtain ⟨hE, h30, hrest⟩ := hNF.search hq
            have h92 := f92 (Γ := Γ) hG hG2 f (nearL vs) 60 (by omega) hc1 (by rw [hnl]; omega)
            rw [hE, if_pos rfl, if_pos rfl, if_pos rfl] at h92
            generalize findL 60 (nearL vs) (casesR f).1 = R at h30 hrest h92
            obtain ⟨M, fd, er⟩ := R
            simp only at h30 hrest h92
            simp only [go_sem, xP, xR, xS, H]
            refine callB_use (f93 f (by omega) hc1) rfl ?_
            simp only [go_sem, xP, xR, xS, H]
            refine callB_use (h92) rfl ?_
            simp only [go_sem, xP, xR, xS, H]
            rcases h30 with rfl | rfl
            ·obtain ⟨i1, i2⟩ := hrest rfl
             cases fd
             ·obtain ⟨rfl, j2⟩ := i1 rfl
              simp only [go_sem, xP, xR, xS, H, j2]
              refine callB_use (f22 hG1 hG3) rfl ?_
              simp only [go_sem, xP, xR, xS]
              exact retP_drop hD2 rfl
             ·obtain ⟨j1, j2, j3⟩ := i2 rfl
              have hMl := (values_okM j2).1
              simp only [go_sem, xP, xR, xS, H]
              refine callB_use (f93 f (by omega) hc1) rfl ?_
              simp only [go_sem, xP, xR, xS, H]
              refine callB_use (f84 M (by omega)) rfl ?_
              simp only [go_sem, xP, xR, xS, H]
              refine callB_use (f41ok hG c1 j2 hc1) rfl ?_
              simp only [go_sem, xP, xR, xS, H, j1, j3]
              refine callB_use (f22 hG1 hG3) rfl ?_
              simp only [go_sem, xP, xR, xS]
              exact retP_drop hD2 rfl
            ·simp only [go_sem, xP, xR, xS, H, c30]
             refine callB_use (f22 hG1 hG3) rfl ?_
             simp only [go_sem, xP, xR, xS]
             exact retP_drop hD2 rfl
          ·simp only [go_sem, xP, xR, xS, H, hq]
           refine callB_use (f22 hG1 hG3) rfl ?_
           simp only [go_sem, xP, xR, xS]
           exact retP_drop hD rfl
        ·simp only [go_sem, xP, xR, xS, he4, hhv]
         refine SemC.loopK mixed vs.length (fun k ρ σ' ds => ds = [] ∧ (ρ 3 = .pp (fmC f) 0 ∧ ρ 12 = .v (.bool (holdsB f vs)) ∧ ρ 15 = int (provedE f) ∧ ρ 122 = slI vs ∧ ρ 123 = int vs.length) ∧ ρ 124 = int k ∧ Drop σ' σ ∧ Grow σ σ' 2 (ρ 18) ((nearL (vs.take k)).flatMap rgC) k) (by kernel_rfl) ?_ ?_
         ·refine ⟨rfl, by simp only [go_sem, xP, xR, xS, slI, fmC, slN, he4, hhv], rfl, ?_, .nil _ _ _⟩
          repeat (first | exact Drop.refl _ | assumption | refine Drop.upd ?_ (by assumption))
         rintro k ρ σ' ds hk ⟨rfl, H, h124, hD, hGr⟩
         obtain ⟨a, ha⟩ : ∃ a, ρ 18 = a := ⟨_, rfl⟩
         rw [ha] at hGr
         rcases get_or_end vs k hk with ⟨v, hx, hltk, hdk⟩ | hk
         ·have hvb := hval v (mem_of_get hx)
          have hgx : (ints vs)[k]? = some (int v) := by rw [ints, List.getElem?_map, hx]; rfl
          simp only [go_sem, xP, xR, xS, H, h124, hltk, hgx, slI, ha, near_lo hvb, near_hi hvb]
          refine appB_sl (appT_sl el49 tk91 by91 el49 (by decide) rfl (by decide)) hD hGr rfl rfl (by omega) (fun a' σ2 hD2 hO hG2 => ?_)
          simp only [go_sem, xP, xR, xS, H, h124]
          refine ⟨by rw [wrap_succ _ (by omega)], hD2, ?_⟩
          have e : nearL (vs.take (k + 1)) = nearL (vs.take k) ++ [nearR v] := by rw [take_succ hx, nearL, List.map_append]; rfl
          rw [e, List.flatMap_append]
          simpa [rgC, int] using hG2
         ·subst hk
          rw [List.take_length] at hGr
          have hnl : (nearL vs).length = vs.length := by rw [nearL, List.length_map]
          simp only [go_sem, xP, xR, xS, H, h124, Nat.lt_irrefl]
          refine callB_use (h50) rfl ?_
          simp only [go_sem, xP, xR, xS]
          by_cases hq : (casesR f).2 = 0
          ·by_cases h8 : (8 : Int) < (casesR f).1.length
           ·simp only [go_sem, xP, xR, xS, H, hq, h8, slC]
            refine callB_use (f22 hG1 hG3) rfl ?_
            simp only [go_sem, xP, xR, xS]
            exact retP_drop hD rfl
           ·simp only [go_sem, xP, xR, xS, H, hq, h8, slC]
            refine frzB_grow 18 (by simp only [go_sem, xP, xR, xS, H, ha]) hGr hD (fun σ2 hD2 _ => ?_)
            have e18 : AV.sl ((nearL vs).flatMap rgC) vs.length = slR (nearL vs) := by rw [slR, hnl]
            rw [e18]
            obtain ⟨hE, h30, hrest⟩ := hNF.search hq
            have h92 := f92 (Γ := Γ) hG hG2 f (nearL vs) 60 (by omega) hc1 (by rw [hnl]; omega)
            rw [hE, if_pos rfl, if_pos rfl, if_pos rfl] at h92
            generalize findL 60 (nearL vs) (casesR f).1 = R at h30 hrest h92
            obtain ⟨M, fd, er⟩ := R
            simp only at h30 hrest h92
            simp only [go_sem, xP, xR, xS, H]
            refine callB_use (f93 f (by omega) hc1) rfl ?_
            simp only [go_sem, xP, xR, xS, H]
            refine callB_use (h92) rfl ?_
            simp only [go_sem, xP, xR, xS, H]
            rcases h30 with rfl | rfl
            ·obtain ⟨i1, i2⟩ := hrest rfl
             cases fd
             ·obtain ⟨rfl, j2⟩ := i1 rfl
              simp only [go_sem, xP, xR, xS, H, j2]
              refine callB_use (f22 hG1 hG3) rfl ?_
              simp only [go_sem, xP, xR, xS]
              exact retP_drop hD2 rfl
             ·obtain ⟨j1, j2, j3⟩ := i2 rfl
              have hMl := (values_okM j2).1
              simp only [go_sem, xP, xR, xS, H]
              refine callB_use (f93 f (by omega) hc1) rfl ?_
              simp only [go_sem, xP, xR, xS, H]
              refine callB_use (f84 M (by omega)) rfl ?_
              simp only [go_sem, xP, xR, xS, H]
              refine callB_use (f41ok hG c1 j2 hc1) rfl ?_
              simp only [go_sem, xP, xR, xS, H, j1, j3]
              refine callB_use (f22 hG1 hG3) rfl ?_
              simp only [go_sem, xP, xR, xS]
              exact retP_drop hD2 rfl
            ·simp only [go_sem, xP, xR, xS, H, c30]
             refine callB_use (f22 hG1 hG3) rfl ?_
             simp only [go_sem, xP, xR, xS]
             exact retP_drop hD2 rfl
          ·simp only [go_sem, xP, xR, xS, H, hq]
           refine callB_use (f22 hG1 hG3) rfl ?_
           simp only [go_sem, xP, xR, xS]
           exact retP_drop hD rfl
      ·simp only [go_sem, xP, xR, xS, s1, c1, sm, vv, sp, cf]
       refine callB_use (f22 hG1 hG3) rfl ?_
       simp only [go_sem, xP, xR, xS]
    ·simp only [go_sem, xP, xR, xS, s1, c1, sm, vv]
     refine callB_use (f22 hG1 hG3) rfl ?_
     simp only [go_sem, xP, xR, xS]
  ·simp only [go_sem, xP, xR, xS, s1, c1]
   refine callB_use (f22 hG1 hG3) rfl ?_
   simp only [go_sem, xP, xR, xS]
 ·rw [Bool.not_eq_true] at s1
  simp only [go_sem, xP, xR, xS, Tryz.f15]
  refine callB_use (f39 f hl) rfl ?_
  simp only [go_sem, xP, xR, xS, s1]
  refine callB_use (f22 hG1 hG3) rfl ?_
  simp only [go_sem, xP, xR, xS]
end Go.AL
