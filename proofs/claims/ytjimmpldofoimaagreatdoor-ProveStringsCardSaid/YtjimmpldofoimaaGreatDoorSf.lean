/- The leaves of a proof that are reached: counted by the program's queue and from above, alike. -/
import Derived.Test.YtjimmpldofoimaaGreatDoorLa
import Derived.Test.YtjimmpldofoimaaGreatDoorSc
import Derived.Test.YtjimmpldofoimaaGreatDoorSd
import Derived.Test.YtjimmpldofoimaaGreatDoorSe
import Derived.Test.YtjimmpldofoimaaGreatDoorWb
import Derived.Test.YtjimmpldofoimaaGreatDoorWc
import Derived.Test.YtjimmpldofoimaaGreatDoorWd
import Derived.Test.YtjimmpldofoimaaGreatDoorWh
import Derived.Test.YtjimmpldofoimaaGreatDoorWl
open Nat renaming reduceEqDiff → xQ, reduceAdd → xA, reduceMul → xM, reduceLeDiff → xL
open Int renaming reduceLT → xT, reduceLE → xE, reduceToNat → xN
open Go.AL renaming retPost_one → xP, retPost_oneN → xR, ers_at' → xS
set_option linter.unusedVariables false
set_option linter.unusedSimpArgs false
namespace Go.AL
open Go.Proofs
/-- The steps that are reached from the root. -/
inductive Rch (p : List St) : Nat → Prop
  | root : Rch p (p.length - 1)
  | lo {i : Nat} {s : St} : Rch p i → p[i]? = some s → s.leaf = false → Rch p s.k0.toNat
  | hi {i : Nat} {s : St} : Rch p i → p[i]? = some s → s.leaf = false → Rch p s.k1.toNat
theorem Rch.lt {p : List St} {m : Nat} (hok : okSteps p m) (hne : p ≠ []) : ∀ {i : Nat}, Rch p i → i < p.length := by
  intro i h
  induction h with
  | root => have := List.length_pos_iff.2 hne; omega
  | lo h1 h2 h3 ih => obtain ⟨v, a, b, _, _, ha, hai, hb, hbi⟩ := hok _ _ h2 h3; omega
  | hi h1 h2 h3 ih => obtain ⟨v, a, b, _, _, ha, hai, hb, hbi⟩ := hok _ _ h2 h3; omega
/-- The same with numbers in place of steps. -/
def reachI (p : List St) : Nat → List Nat → List Nat → List Nat
  | 0, _, _ => []
  | _ + 1, [], _ => []
  | f + 1, i :: todo, seen =>
    if i ∈ seen then reachI p f todo seen
    else match p[i]? with
      | none => []
      | some s => i :: reachI p f (if s.leaf then todo else todo ++ [s.k0.toNat, s.k1.toNat]) (seen ++ [i])
theorem reach_map (p : List St) : ∀ (f : Nat) (todo seen : List Nat), reachF p f todo seen = (reachI p f todo seen).filterMap (p[·]?)
  | 0, _, _ => rfl
  | _ + 1, [], _ => rfl
  | f + 1, i :: todo, seen => by
    rw [reachF, reachI]
    by_cases h : i ∈ seen
    · rw [if_pos h, if_pos h, reach_map p f]
    · rw [if_neg h, if_neg h]
      cases hs : p[i]? with
      | none => rfl
      | some s =>
        simp only
        rw [List.filterMap_cons, hs, reach_map p f]
theorem reachI_all {p : List St} {m : Nat} (hok : okSteps p m) (hne : p ≠ []) : ∀ (f : Nat) (todo seen : List Nat), fuelOf p todo seen < f → seen.Nodup → (∀ i ∈ seen, Rch p i) → (∀ i ∈ todo, Rch p i) → (p.length - 1 ∈ seen ∨ p.length - 1 ∈ todo) →
    (∀ i ∈ seen, ∀ s, p[i]? = some s → s.leaf = false → (s.k0.toNat ∈ seen ∨ s.k0.toNat ∈ todo) ∧ (s.k1.toNat ∈ seen ∨ s.k1.toNat ∈ todo)) →
    (seen ++ reachI p f todo seen).Nodup ∧ ∀ i, i ∈ seen ++ reachI p f todo seen ↔ Rch p i
  | 0, todo, seen, hf, _, _, _, _, _ => absurd hf (by omega)
  | f + 1, [], seen, hf, hnd, hs, ht, hr, hcl => by
    rw [reachI, List.append_nil]
    refine ⟨hnd, fun i => ⟨hs i, fun h => ?_⟩⟩
    have hr' : p.length - 1 ∈ seen := hr.resolve_right (by simp)
    induction h with
    | root => exact hr'
    | lo h1 h2 h3 ih => exact ((hcl _ ih _ h2 h3).1).resolve_right (by simp)
    | hi h1 h2 h3 ih => exact ((hcl _ ih _ h2 h3).2).resolve_right (by simp)
  | f + 1, i :: todo, seen, hf, hnd, hs, ht, hr, hcl => by
    rw [reachI]
    by_cases h : i ∈ seen
    · rw [if_pos h]
      have hmv : ∀ j, j ∈ seen ∨ j ∈ i :: todo → j ∈ seen ∨ j ∈ todo := fun j hj => by
        rcases hj with hj | hj
        · exact .inl hj
        · rcases List.mem_cons.1 hj with rfl | hj
          · exact .inl h
          · exact .inr hj
      exact reachI_all hok hne f todo seen (by simp only [fuelOf, List.length_cons] at hf ⊢; omega) hnd hs (fun j hj => ht j (by simp [hj])) (hmv _ hr) fun j hj s hp hl => ⟨hmv _ (hcl j hj s hp hl).1, hmv _ (hcl j hj s hp hl).2⟩
    · rw [if_neg h]
      have hri := ht i (by simp)
      have hlt := hri.lt hok hne
      obtain ⟨s, hsi⟩ : ∃ s, p[i]? = some s := ⟨p[i], List.getElem?_eq_getElem hlt⟩
      rw [hsi]
      simp only
      have hnd' : (seen ++ [i]).Nodup := by
        rw [List.nodup_append]
        exact ⟨hnd, by simp, fun a ha b hb => by simp at hb; subst hb; exact fun e => h (e ▸ ha)⟩
      have hs' : ∀ j ∈ seen ++ [i], Rch p j := fun j hj => by
        rcases List.mem_append.1 hj with h | h
        · exact hs j h
        · simp at h; subst h; exact hri
      have hpg := pigeon p.length _ hnd' fun j hj => (hs' j hj).lt hok hne
      simp only [List.length_append, List.length_singleton] at hpg
      obtain ⟨T, hT⟩ : ∃ T, (if s.leaf then todo else todo ++ [s.k0.toNat, s.k1.toNat]) = T := ⟨_, rfl⟩
      rw [hT]
      have hTl : T.length ≤ todo.length + 2 := by rw [← hT]; split <;> simp
      have hTm : ∀ j, j ∈ T → j ∈ todo ∨ s.leaf = false ∧ (j = s.k0.toNat ∨ j = s.k1.toNat) := fun j hj => by
        rw [← hT] at hj
        split at hj
        · exact .inl hj
        · rename_i hlf
          simp only [List.mem_append, List.mem_cons, List.not_mem_nil, or_false] at hj
          rcases hj with hj | hj
          · exact .inl hj
          · exact .inr ⟨by simpa using hlf, hj⟩
      have hTs : ∀ j ∈ todo, j ∈ T := fun j hj => by
        rw [← hT]; split
        · exact hj
        · simp [hj]
      have hmv : ∀ j, j ∈ seen ∨ j ∈ i :: todo → j ∈ seen ++ [i] ∨ j ∈ T := fun j hj => by
        rcases hj with hj | hj
        · exact .inl (by simp [hj])
        · rcases List.mem_cons.1 hj with rfl | hj
          · exact .inl (by simp)
          · exact .inr (hTs j hj)
      have ih := reachI_all hok hne f T (seen ++ [i]) (by simp only [fuelOf, List.length_cons, List.length_append, List.length_nil] at hf ⊢; omega) hnd' hs' (fun j hj => by
        rcases hTm j hj with h | ⟨hl, rfl | rfl⟩
        · exact ht j (by simp [h])
        · exact .lo hri hsi hl
        · exact .hi hri hsi hl) (hmv _ hr) (fun j hj s' hp hl => by
        rcases List.mem_append.1 hj with h | h
        · exact ⟨hmv _ (hcl j h s' hp hl).1, hmv _ (hcl j h s' hp hl).2⟩
        · simp at h
          subst h
          rw [hsi] at hp
          cases hp
          rw [← hT, hl]
          simp)
      rwa [List.append_assoc, List.singleton_append] at ih
theorem reachP_all {p : List St} {m : Nat} (hok : okSteps p m) (hne : p ≠ []) : (reachI p (3 * p.length + 2) [p.length - 1] []).Nodup ∧ ∀ i, i ∈ reachI p (3 * p.length + 2) [p.length - 1] [] ↔ Rch p i := by
  have := reachI_all hok hne (3 * p.length + 2) [p.length - 1] [] (by simp [fuelOf]) List.nodup_nil (by simp) (fun i hi => by simp at hi; subst hi; exact .root) (.inr (by simp)) (by simp)
  simpa using this
open Classical in
/-- The leaves that are reached, from step 'i' on. -/
noncomputable def cntR (p : List St) (i : Nat) : Nat := ((List.range' i (p.length - i)).filter fun j => decide (Rch p j) && ((p[j]?).map (·.leaf)).getD false).length
theorem cntR_end (p : List St) : cntR p p.length = 0 := by
  rw [cntR, Nat.sub_self]
  rfl
theorem cntR_step {p : List St} {i : Nat} (h : i < p.length) {s : St} (hs : p[i]? = some s) : (¬ Rch p i → cntR p i = cntR p (i + 1)) ∧ (Rch p i → s.leaf = true → cntR p i = cntR p (i + 1) + 1) ∧ (Rch p i → s.leaf = false → cntR p i = cntR p (i + 1)) := by
  have e : p.length - i = (p.length - (i + 1)) + 1 := by omega
  rw [cntR, e, List.range'_succ]
  refine ⟨fun hr => ?_, fun hr hl => ?_, fun hr hl => ?_⟩
  · rw [List.filter_cons_of_neg (by simp [hr])]; rfl
  · rw [List.filter_cons_of_pos (by simp [hr, hs, hl]), List.length_cons]; rfl
  · rw [List.filter_cons_of_neg (by simp [hr, hs, hl])]; rfl
theorem cnt_eq {p : List St} {m : Nat} (hok : okSteps p m) (hne : p ≠ []) : cntL (reachP p) = cntR p 0 := by
  obtain ⟨h1, h2⟩ := reachP_all hok hne
  rw [reachP, reach_map, cntL, cntR]
  generalize reachI p (3 * p.length + 2) [p.length - 1] [] = l at h1 h2
  have e1 : ∀ l : List Nat, (∀ i ∈ l, i < p.length) → ((l.filterMap (p[·]?)).filter (·.leaf)).length = (l.filter fun j => ((p[j]?).map (·.leaf)).getD false).length := fun l => by
    induction l with
    | nil => intro _; rfl
    | cons i l ih =>
      intro h
      have hi := h i (by simp)
      have ih := ih fun j hj => h j (by simp [hj])
      have hs : p[i]? = some p[i] := List.getElem?_eq_getElem hi
      rw [List.filterMap_cons, hs]
      simp only [List.filter_cons, hs, Option.map_some, Option.getD_some]
      split <;> simp [ih]
  rw [e1 l fun i hi => ((h2 i).1 hi).lt hok hne]
  apply List.Perm.length_eq
  rw [List.perm_ext_iff_of_nodup (h1.filter _) ((List.nodup_range' (step := 1)).filter _)]
  intro j
  simp only [List.mem_filter, h2, Nat.sub_zero, List.mem_range'_1, Nat.zero_le, Nat.zero_add, true_and, Bool.and_eq_true, decide_eq_true_eq]
  constructor
  · exact fun ⟨a, b⟩ => ⟨a.lt hok hne, a, b⟩
  · exact fun ⟨_, a, b⟩ => ⟨a, b⟩
/-- Whom the marks tell that were set from above. -/
def MarkOk (p : List St) (mk : List Bool) (i : Nat) : Prop := mk.length = p.length ∧ (∀ j, mk[j]? = some true → Rch p j) ∧ mk[p.length - 1]? = some true ∧ ∀ k s, i ≤ k → Rch p k → p[k]? = some s → s.leaf = false → mk[s.k0.toNat]? = some true ∧ mk[s.k1.toNat]? = some true
theorem MarkOk.here {p : List St} {mk : List Bool} {i : Nat} {m : Nat} (hok : okSteps p m) (hne : p ≠ []) (h : MarkOk p mk (i + 1)) (hi : i < p.length) : Rch p i ↔ mk[i]? = some true := by
  obtain ⟨h1, h2, h3, h4⟩ := h
  refine ⟨fun hr => ?_, h2 i⟩
  cases hr with
  | root => exact h3
  | lo hk hs hl =>
    obtain ⟨v, a, b, _, _, ha, hai, hb, hbi⟩ := hok _ _ hs hl
    exact (h4 _ _ (by omega) hk hs hl).1
  | hi hk hs hl =>
    obtain ⟨v, a, b, _, _, ha, hai, hb, hbi⟩ := hok _ _ hs hl
    exact (h4 _ _ (by omega) hk hs hl).2
theorem MarkOk.skip {p : List St} {mk : List Bool} {i : Nat} {s : St} (h : MarkOk p mk (i + 1)) (hs : p[i]? = some s) (hn : ¬ Rch p i ∨ s.leaf = true) : MarkOk p mk i := by
  obtain ⟨h1, h2, h3, h4⟩ := h
  refine ⟨h1, h2, h3, fun k s' hk hr hp hl => ?_⟩
  by_cases e : k = i
  · subst e
    rw [hs] at hp
    cases hp
    rcases hn with hn | hn
    · exact absurd hr hn
    · rw [hl] at hn; cases hn
  · exact h4 k s' (by omega) hr hp hl
theorem MarkOk.mark {p : List St} {mk : List Bool} {i : Nat} {s : St} {m : Nat} (hok : okSteps p m) (h : MarkOk p mk (i + 1)) (hs : p[i]? = some s) (hr : Rch p i) (hl : s.leaf = false) : MarkOk p ((mk.set s.k0.toNat true).set s.k1.toNat true) i := by
  obtain ⟨h1, h2, h3, h4⟩ := h
  obtain ⟨v, a, b, _, _, ha, hai, hb, hbi⟩ := hok _ _ hs hl
  have hil := lt_of_getElem? hs
  have keep : ∀ j, mk[j]? = some true → ((mk.set s.k0.toNat true).set s.k1.toNat true)[j]? = some true := fun j hj => by
    have hjl := lt_of_getElem? hj
    rw [List.getElem?_set, List.getElem?_set]
    split
    · rw [if_pos (by simpa using by omega)]
    · split
      · rw [if_pos (by omega)]
      · exact hj
  refine ⟨by simp [h1], fun j hj => ?_, keep _ h3, fun k s' hk hr' hp hl' => ?_⟩
  · rw [List.getElem?_set, List.getElem?_set] at hj
    split at hj
    · rename_i e; rw [← e]; exact .hi hr hs hl
    · split at hj
      · rename_i e; rw [← e]; exact .lo hr hs hl
      · exact h2 j hj
  · by_cases e : k = i
    · subst e
      rw [hs] at hp
      cases hp
      constructor
      · rw [List.getElem?_set]
        split
        · rw [if_pos (by simp; omega)]
        · rw [List.getElem?_set, if_pos rfl, if_pos (by omega)]
      · rw [List.getElem?_set, if_pos rfl, if_pos (by simp; omega)]
    · obtain ⟨x, y⟩ := h4 k s' (by omega) hr' hp hl'
      exact ⟨keep _ x, keep _ y⟩
theorem mark0 {p : List St} (hne : p ≠ []) : MarkOk p ((List.replicate p.length false).set (p.length - 1) true) p.length := by
  have hp := List.length_pos_iff.2 hne
  refine ⟨by simp, fun j hj => ?_, ?_, fun k s hk _ hp _ => ?_⟩
  · rw [List.getElem?_set] at hj
    split at hj
    · rename_i e; rw [← e]; exact .root
    · rw [List.getElem?_replicate] at hj
      split at hj <;> simp at hj
  · rw [List.getElem?_set, if_pos rfl, if_pos (by simp; omega)]
  · have := lt_of_getElem? hp; omega
end Go.AL

/- Proofs read from strings: what both parsers do, told plainly. -/
set_option linter.unusedVariables false
set_option linter.unusedSimpArgs false
namespace Go.AL
open Go.Proofs
def bLeafL : List UInt8 := [108, 101, 97, 102]
def bSplitL : List UInt8 := [115, 112, 108, 105, 116]
def st0 : St := ⟨false, [], 0, 0, 0, 0⟩
/-- The step of the words of a line. -/
noncomputable def stO (w : List UInt8) (W : List (List UInt8)) : Option St := match intsO 10 W with
  | none => none
  | some l => if w = bLeafL then some ⟨true, l, 0, 0, 0, 0⟩ else if w = bSplitL then (match l with
    | [a, b, c, d] => some ⟨false, [], a, b, c, d⟩
    | _ => none) else none
theorem stO_none {w : List UInt8} {W : List (List UInt8)} (h : intsO 10 W = none) : stO w W = none := by rw [stO, h]
theorem stO_leaf {W : List (List UInt8)} {l : List Int} (h : intsO 10 W = some l) : stO bLeafL W = some ⟨true, l, 0, 0, 0, 0⟩ := by rw [stO, h]; exact if_pos rfl
theorem stO_split {W : List (List UInt8)} {a b c d : Int} (h : intsO 10 W = some [a, b, c, d]) : stO bSplitL W = some ⟨false, [], a, b, c, d⟩ := by
  rw [stO, h]
  show (if bSplitL = bLeafL then _ else if bSplitL = bSplitL then _ else _) = _
  rw [if_neg (by decide), if_pos rfl]
theorem stO_split_no {W : List (List UInt8)} {l : List Int} (h : intsO 10 W = some l) (hl : l.length ≠ 4) : stO bSplitL W = none := by
  rw [stO, h]
  show (if bSplitL = bLeafL then _ else if bSplitL = bSplitL then _ else _) = _
  rw [if_neg (by decide), if_pos rfl]
  split
  · exact absurd rfl hl
  · rfl
theorem stO_other {w : List UInt8} {W : List (List UInt8)} (h1 : w ≠ bLeafL) (h2 : w ≠ bSplitL) : stO w W = none := by
  rw [stO]
  split
  · rfl
  · rw [if_neg h1, if_neg h2]
theorem stO_fit {w : List UInt8} {W : List (List UInt8)} {s : St} (h : stO w W = some s) (hW : W.length ≤ 1000000) : s.factors.length ≤ 1000000 := by
  rw [stO] at h
  split at h
  · cases h
  · rename_i l hl
    have := intsO_len 10 W l hl
    split at h
    · cases h; show l.length ≤ _; omega
    · split at h
      · split at h
        · cases h; exact Nat.zero_le _
        · cases h
      · cases h
/-- The proof of lines, the number of the first wrong one, the error. -/
noncomputable def parP : List (List UInt8) → Nat → List St → List St × Int × Int
  | [], i, p => ([], i, 23)
  | r :: rs, i, p => match rs with
    | [] => if r = [] then (if checkFormE p 8 = 0 then (p, 0, 0) else ([], i, checkFormE p 8)) else ([], i, 23)
    | r' :: rs' => match cutL 32 r with
      | [] => ([], i, 23)
      | w :: W => match stO w W with
        | some s => parP (r' :: rs') (i + 1) (p ++ [s])
        | none => ([], i, 23)
noncomputable def parPR (s : ByteArray) : List St × Int × Int := if (16384 : Int) < s.size then ([], 0, 24) else parP (cutL 10 s.data.toList) 0 []
theorem parP_last {i : Nat} {p : List St} : parP [[]] i p = if checkFormE p 8 = 0 then (p, 0, 0) else ([], (i : Int), checkFormE p 8) := by
  rw [parP]
  simp
theorem parP_bad {i : Nat} {p : List St} {r : List UInt8} (h : r ≠ []) : parP [r] i p = ([], (i : Int), 23) := by
  rw [parP]
  simp [h]
theorem parP_step {i : Nat} {p : List St} {r : List UInt8} {rs : List (List UInt8)} {w : List UInt8} {W : List (List UInt8)} (h : rs ≠ []) (hc : cutL 32 r = w :: W) : parP (r :: rs) i p = (match stO w W with
    | some s => parP rs (i + 1) (p ++ [s])
    | none => ([], (i : Int), 23)) := by
  obtain ⟨r', rs', rfl⟩ := List.exists_cons_of_ne_nil h
  rw [parP, hc]
theorem parP_fit : ∀ (rows : List (List UInt8)) (i : Nat) (p : List St), (parP rows i p).1 = [] ∨ checkFormE (parP rows i p).1 8 = 0
  | [], i, p => .inl rfl
  | [r], i, p => by
    rw [parP]
    split
    · split
      · exact .inr (by assumption)
      · exact .inl rfl
    · exact .inl rfl
  | r :: r' :: rs, i, p => by
    rw [parP]
    split
    · exact .inl rfl
    · split
      · exact parP_fit (r' :: rs) _ _
      · exact .inl rfl
end Go.AL

/- Proofs as they are printed, in bytes; and they are parsed as they were printed. -/
set_option linter.unusedVariables false
set_option linter.unusedSimpArgs false
namespace Go.AL
open Go.Proofs
def wordS (s : St) : List UInt8 := if s.leaf then bLeafL else bSplitL
def bodyS (s : St) : List UInt8 := wordS s ++ numsB (lineL s)
def lineS (s : St) : List UInt8 := bodyS s ++ [10]
theorem word_data (s : St) : (if s.leaf then bLeaf else bSplit).data.toList = wordS s := by
  unfold wordS
  split <;> rfl
theorem lineP_data (s : St) : (lineP itoaP s).data.toList = lineS s := by
  have e : lineP itoaP s = lineF (if s.leaf then bLeaf else bSplit) (lineL s) := rfl
  rw [e, lineF_data, word_data]
  rfl
theorem joinTail_flat : ∀ l : List (List UInt8), Lib.joinTail [] l = l.flatten
  | [] => rfl
  | a :: l => by
    have := joinTail_flat l
    simp only [Lib.joinTail, List.map_cons, List.flatten_cons, List.nil_append] at this ⊢
    rw [this]
theorem join_flat : ∀ l : List (List UInt8), Lib.join l [] = l.flatten
  | [] => rfl
  | a :: l => by rw [Lib.join_cons, joinTail_flat, List.flatten_cons]
theorem printP_data (p : List St) : (printP itoaP p).data.toList = p.flatMap lineS := by
  show Lib.join ((p.map (lineP itoaP)).map (·.data.toList)) [] = _
  rw [join_flat, List.map_map, ← List.flatMap_def]
  congr 1
  exact funext lineP_data
theorem printP_bts (p : List St) : printP itoaP p = bts (p.flatMap lineS) := by
  rw [← printP_data, bts_of]
theorem stepE_all {p : List St} {m : Nat} (h : checkFormE p m = 0) : ∀ i s, p[i]? = some s → stepE s (i : Nat) m = 0 := by
  unfold checkFormE at h
  simp only at h
  split at h
  · intro i s hs
    have := steps_zero h i s hs
    simpa using this
  · rename_i hn
    exact absurd h hn
theorem step_nums {s : St} {i m : Nat} (h : stepE s i m = 0) (hm : m ≤ 1000) (hi : i ≤ 1000) : (lineL s).length ≤ 167 ∧ ∀ x ∈ lineL s, x.natAbs ≤ 4294967295 := by
  unfold lineL
  cases hl : s.leaf with
  | true =>
    rw [stepE, if_pos hl] at h
    split at h
    · cases h
    · simp only [if_true]
      refine ⟨by omega, fun x hx => ?_⟩
      have h1 := (firstE_zero _).1 h (firstE (s.factors.map fun n => withinE n 0 1000)) (by simp)
      have h2 := within_zero ((firstE_zero _).1 h1 _ (List.mem_map_of_mem hx))
      omega
  | false =>
    rw [stepE, if_neg (by rw [hl]; decide)] at h
    have h1 := (firstE_zero _).1 h
    have a1 := (whenE_zero (by decide)).1 (h1 (whenE (decide (s.var < 0) || decide ((m : Int) ≤ s.var)) 8) (by simp))
    have a2 := within_zero (h1 (withinE s.bound (-4294967295) 4294967295) (by simp))
    have a3 := (whenE_zero (by decide)).1 (h1 (earlierE s.k0 i) (by simp))
    have a4 := (whenE_zero (by decide)).1 (h1 (earlierE s.k1 i) (by simp))
    simp only [Bool.or_eq_false_iff, decide_eq_false_iff_not] at a1 a3 a4
    simp only [Bool.false_eq_true, if_false]
    refine ⟨by simp, fun x hx => ?_⟩
    simp only [List.mem_cons, List.not_mem_nil, or_false] at hx
    rcases hx with rfl | rfl | rfl | rfl <;> omega
theorem itoa_le {x : Int} (h : x.natAbs ≤ 4294967295) : (Lib.itoa x).length ≤ 21 := itoa_len (n := x) ⟨by omega, by omega⟩
theorem numsB_len : ∀ {l : List Int}, (∀ x ∈ l, x.natAbs ≤ 4294967295) → (numsB l).length ≤ 22 * l.length
  | [], _ => by simp [numsB]
  | x :: l, h => by
    have ih := numsB_len (l := l) fun y hy => h y (List.mem_cons_of_mem _ hy)
    have h1 := itoa_le (h x (by simp))
    simp only [numsB, List.flatMap_cons, List.length_append, List.length_cons] at ih ⊢
    omega
theorem wordS_len (s : St) : (wordS s).length ≤ 5 := by
  unfold wordS
  split <;> decide
theorem lineS_len {s : St} {i m : Nat} (h : stepE s i m = 0) (hm : m ≤ 1000) (hi : i ≤ 1000) : (lineS s).length ≤ 3700 := by
  obtain ⟨h1, h2⟩ := step_nums h hm hi
  have := numsB_len h2
  have := wordS_len s
  simp only [lineS, bodyS, List.length_append, List.length_cons, List.length_nil]
  omega
end Go.AL

/- The step of a line. -/
set_option linter.unusedVariables false
set_option linter.unusedSimpArgs false
namespace Go.AL
open Go.Proofs
variable {Γ : Glob}
attribute [local irreducible] codeW opsW dopsW
theorem f322 (n : Int) : PCalls Tryz.prog Γ 322 [int n] (.v (.bool true)) := by
  refine pcalls (ok322 Γ) fun σ => ?_
  simp only [go_sem, xQ, ↓reduceIte, xA, xM, xL, xT, xE, xN, xP, xR, xS, Tryz.f322]
theorem f324 (n : Int) : PCalls Tryz.prog Γ 324 [int n] (.v (.bool (decide (n = 4)))) := by
  refine pcalls (ok324 Γ) fun σ => ?_
  simp only [go_sem, xQ, ↓reduceIte, xA, xM, xL, xT, xE, xN, xP, xR, xS, Tryz.f324]
theorem f323 (l : List Int) : PCalls Tryz.prog Γ 323 [slI l] (stA ⟨true, l, 0, 0, 0, 0⟩) := by
  refine pcalls (ok323 Γ) fun σ => ?_
  simp only [go_sem, xQ, ↓reduceIte, xA, xM, xL, xT, xE, xN, xP, xR, xS, Tryz.f323]
  intro b hb
  simp only [go_sem, xQ, ↓reduceIte, xA, xM, xL, xT, xE, xN, xP, xR, xS]
  exact retP_drop (by repeat (first | exact Drop.refl _ | assumption | refine Drop.upd ?_ (by assumption))) (rfl)
theorem f325 (a b c d : Int) : PCalls Tryz.prog Γ 325 [slI [a, b, c, d]] (stA ⟨false, [], a, b, c, d⟩) := by
  refine pcalls (ok325 Γ) fun σ => ?_
  simp only [go_sem, xQ, ↓reduceIte, xA, xM, xL, xT, xE, xN, xP, xR, xS, Tryz.f325, slI, ints]
  intro b2 hb
  simp only [go_sem, xQ, ↓reduceIte, xA, xM, xL, xT, xE, xN, xP, xR, xS]
  exact ⟨.agg (.cons (.refl _) (.cons .nil (.cons (.refl _) (.cons (.refl _) (.cons (.refl _) (.cons (.refl _) .nil)))))), by repeat (first | exact Drop.refl _ | refine Drop.upd ?_ (by assumption))⟩
theorem bts_inj_leaf (w : List UInt8) : bLeaf = bts w ↔ w = bLeafL := ⟨fun h => by have := congrArg (·.data.toList) h; exact this.symm, fun h => h ▸ rfl⟩
theorem bts_inj_split (w : List UInt8) : bSplit = bts w ↔ w = bSplitL := ⟨fun h => by have := congrArg (·.data.toList) h; exact this.symm, fun h => h ▸ rfl⟩
noncomputable def stR (o : Option St) : AV := .tup [stA (o.getD st0), .v (.bool o.isSome)]
set_option maxHeartbeats 4000000 in
theorem f186 (hG3 : Γ 3 = some kindsT) (s : ByteArray) (hs : s.size ≤ 1000000) (w : List UInt8) (W : List (List UInt8)) (hW : cutL 32 (cutEnd s).data.toList = w :: W) : PCalls Tryz.prog Γ 186 [str s] (stR (if endsB s then stO w W else none)) := by
  have hcl := cutEnd_le s
  have hsz := Lib.size_eq (cutEnd s)
  have hWl : W.length ≤ 1000000 := by have := cutL_len 32 (cutEnd s).data.toList; rw [hW] at this; simp at this; omega
  have hWm : ∀ x ∈ W, x.length ≤ 1000000 := fun x hx => by have := (cutL_mem 32 (cutEnd s).data.toList x (by rw [hW]; simp [hx])).2; omega
  have hro : slStr (rowsB 32 (cutEnd s)) = .sl (str (bts w) :: strs (W.map bts)) (W.length + 1) := by rw [rowsB, hW]; exact slW_cons w W
  have g1 : (1 : Int) ≤ ((W.length + 1 : Nat) : Int) := by omega
  have g0 : (0 : Int) < ((W.length + 1 : Nat) : Int) := by omega
  have hG : Γ 3 = some [str bLeaf, .fn (.func 322) [] [], .fn (.func 323) [] [], str bSplit, .fn (.func 324) [] [], .fn (.func 325) [] []] := hG3
  refine pcalls (ok186 Γ) fun σ => ?_
  simp only [go_sem, xQ, ↓reduceIte, xA, xM, xL, xT, xE, xN, xP, xR, xS, Tryz.f186]
  intro b2 hb2
  simp only [go_sem, xQ, ↓reduceIte, xA, xM, xL, xT, xE, xN, xP, xR, xS]
  refine callB_use (f195 s hs) rfl ?_
  simp only [go_sem, xQ, ↓reduceIte, xA, xM, xL, xT, xE, xN, xP, xR, xS]
  refine callB_use (f196 (cutEnd s) (by omega)) rfl ?_
  simp only [go_sem, xQ, ↓reduceIte, xA, xM, xL, xT, xE, xN, xP, xR, xS, hro]
  refine SemC.loopK mixed 2 (fun i ρ σ' ds => ds = [] ∧ (ρ 2 = .v (.pointer (some ⟨b2, 0, none⟩)) ∧ ρ 5 = .v (.bool (endsB s)) ∧ ρ 6 = .sl (str (bts w) :: strs (W.map bts)) (W.length + 1)) ∧ ρ 18 = int i ∧ σ' b2 = some (.row [.v (.bool false), .v (.slice none 0 0), int 0, int 0, int 0, int 0] 6 1) ∧ Drop σ' σ ∧ (0 < i → w ≠ bLeafL) ∧ (1 < i → w ≠ bSplitL)) (by kernel_rfl) ?_ ?_
  · exact ⟨rfl, by simp only [go_sem, xQ, ↓reduceIte, xA, xM, xL, xT, xE, xN, xP, xR, xS], rfl, by simp [upd, int], (Drop.refl σ).upd hb2, fun h => absurd h (by omega), fun h => absurd h (by omega)⟩
  rintro i ρ σ' ds hi ⟨rfl, H, h18, q2, hD, c1, c2⟩
  have hii : i = 0 ∨ i = 1 ∨ i = 2 := by omega
  rcases hii with rfl | rfl | rfl
  · simp only [go_sem, xQ, ↓reduceIte, xA, xM, xL, xT, xE, xN, xP, xR, xS, H, h18, hG]
    intro b8 hb8
    have z8 := hD.free hb8
    have n8 : ¬ b2 = b8 := nn hb8 q2
    have n8' : ¬ b8 = b2 := fun e => n8 e.symm
    simp only [go_sem, xQ, ↓reduceIte, xA, xM, xL, xT, xE, xN, xP, xR, xS, H, h18, n8, n8', g0, str_eq2]
    by_cases hw : bLeaf = bts w
    · have hw' := (bts_inj_leaf w).1 hw
      simp only [go_sem, xQ, ↓reduceIte, xA, xM, xL, xT, xE, xN, xP, xR, xS, H, h18, n8, n8', hw, g1, decide_true]
      refine callB_use (f241 W hWl hWm) (by simp [slW, slStr, strs_take]) ?_
      cases he : endsB s with
      | false =>
        rw [he] at H
        simp only [go_sem, xQ, ↓reduceIte, xA, xM, xL, xT, xE, xN, xP, xR, xS, H, h18, n8, n8', hG, intsR, q2, Bool.false_eq_true, if_false]
        exact ⟨.tup (.cons (.agg (.cons (.refl _) (.cons .nil (.cons (.refl _) (.cons (.refl _) (.cons (.refl _) (.cons (.refl _) .nil))))))) (.cons (.refl _) .nil)), by repeat (first | exact hD | refine Drop.upd ?_ (by assumption))⟩
      | true =>
        rw [he] at H
        cases hi : intsO 10 W with
        | none =>
          have hst : stO w W = none := stO_none hi
          simp only [go_sem, xQ, ↓reduceIte, xA, xM, xL, xT, xE, xN, xP, xR, xS, H, h18, n8, n8', hG, intsR, hi, hst, Option.isSome_none, Option.getD_none, q2, if_true]
          exact ⟨.tup (.cons (.agg (.cons (.refl _) (.cons .nil (.cons (.refl _) (.cons (.refl _) (.cons (.refl _) (.cons (.refl _) .nil))))))) (.cons (.refl _) .nil)), by repeat (first | exact hD | refine Drop.upd ?_ (by assumption))⟩
        | some l =>
          simp only [go_sem, xQ, ↓reduceIte, xA, xM, xL, xT, xE, xN, xP, xR, xS, H, h18, n8, n8', hG, intsR, hi, Option.isSome_some, Option.getD_some, q2, if_true]
          have hll := intsO_len 10 W l hi
          refine callB_use (f322 l.length) rfl ?_
          simp only [go_sem, xQ, ↓reduceIte, xA, xM, xL, xT, xE, xN, xP, xR, xS, H, h18, n8, n8', hG, q2]
          refine callB_use (f323 l) rfl ?_
          simp only [go_sem, xQ, ↓reduceIte, xA, xM, xL, xT, xE, xN, xP, xR, xS, H, h18, n8, n8', hG, q2]
          have hst : stO w W = some ⟨true, l, 0, 0, 0, 0⟩ := by rw [hw']; exact stO_leaf hi
          rw [hst]
          exact retP_drop (by repeat (first | exact Drop.refl _ | assumption | refine Drop.upd ?_ (by assumption))) (rfl)
    · have hw' : ¬ w = bLeafL := fun e => hw ((bts_inj_leaf w).2 e)
      simp only [go_sem, xQ, ↓reduceIte, xA, xM, xL, xT, xE, xN, xP, xR, xS, H, h18, n8, n8', hw, decide_false]
      exact ⟨by omega, congrArg (fun n => AV.v (Value.int .i64 n)) (by decide), q2, hD.upd z8, fun _ => hw', fun h => absurd h (by omega)⟩
  · simp only [go_sem, xQ, ↓reduceIte, xA, xM, xL, xT, xE, xN, xP, xR, xS, H, h18, hG]
    intro b8 hb8
    have z8 := hD.free hb8
    have n8 : ¬ b2 = b8 := nn hb8 q2
    have n8' : ¬ b8 = b2 := fun e => n8 e.symm
    simp only [go_sem, xQ, ↓reduceIte, xA, xM, xL, xT, xE, xN, xP, xR, xS, H, h18, n8, n8', g0, str_eq2]
    by_cases hw : bSplit = bts w
    · have hw' := (bts_inj_split w).1 hw
      simp only [go_sem, xQ, ↓reduceIte, xA, xM, xL, xT, xE, xN, xP, xR, xS, H, h18, n8, n8', hw, g1, decide_true]
      refine callB_use (f241 W hWl hWm) (by simp [slW, slStr, strs_take]) ?_
      cases he : endsB s with
      | false =>
        rw [he] at H
        simp only [go_sem, xQ, ↓reduceIte, xA, xM, xL, xT, xE, xN, xP, xR, xS, H, h18, n8, n8', hG, intsR, q2, Bool.false_eq_true, if_false]
        exact ⟨.tup (.cons (.agg (.cons (.refl _) (.cons .nil (.cons (.refl _) (.cons (.refl _) (.cons (.refl _) (.cons (.refl _) .nil))))))) (.cons (.refl _) .nil)), by repeat (first | exact hD | refine Drop.upd ?_ (by assumption))⟩
      | true =>
        rw [he] at H
        cases hi : intsO 10 W with
        | none =>
          have hst : stO w W = none := stO_none hi
          simp only [go_sem, xQ, ↓reduceIte, xA, xM, xL, xT, xE, xN, xP, xR, xS, H, h18, n8, n8', hG, intsR, hi, hst, Option.isSome_none, Option.getD_none, q2, if_true]
          exact ⟨.tup (.cons (.agg (.cons (.refl _) (.cons .nil (.cons (.refl _) (.cons (.refl _) (.cons (.refl _) (.cons (.refl _) .nil))))))) (.cons (.refl _) .nil)), by repeat (first | exact hD | refine Drop.upd ?_ (by assumption))⟩
        | some l =>
          simp only [go_sem, xQ, ↓reduceIte, xA, xM, xL, xT, xE, xN, xP, xR, xS, H, h18, n8, n8', hG, intsR, hi, Option.isSome_some, Option.getD_some, q2, if_true]
          have hll := intsO_len 10 W l hi
          refine callB_use (f324 l.length) rfl ?_
          simp only [go_sem, xQ, ↓reduceIte, xA, xM, xL, xT, xE, xN, xP, xR, xS, H, h18, n8, n8', hG, q2]
          by_cases h4 : l.length = 4
          · obtain ⟨a, b, c, d, rfl⟩ : ∃ a b c d, l = [a, b, c, d] := by
              match l, h4 with
              | [a, b, c, d], _ => exact ⟨a, b, c, d, rfl⟩
            have hst : stO w W = some ⟨false, [], a, b, c, d⟩ := by rw [hw']; exact stO_split hi
            rw [hst]
            simp only [go_sem, xQ, ↓reduceIte, xA, xM, xL, xT, xE, xN, xP, xR, xS, H, h18, n8, n8', hG, q2]
            refine callB_use (f325 a b c d) rfl ?_
            simp only [go_sem, xQ, ↓reduceIte, xA, xM, xL, xT, xE, xN, xP, xR, xS, H, h18, n8, n8', hG, q2]
            exact retP_drop (by repeat (first | exact Drop.refl _ | assumption | refine Drop.upd ?_ (by assumption))) (rfl)
          · have hst : stO w W = none := by rw [hw']; exact stO_split_no hi h4
            have h4' : ¬ (l.length : Int) = 4 := by omega
            simp only [go_sem, xQ, ↓reduceIte, xA, xM, xL, xT, xE, xN, xP, xR, xS, H, h18, n8, n8', hG, q2, h4', hst, decide_false]
            exact ⟨.tup (.cons (.agg (.cons (.refl _) (.cons .nil (.cons (.refl _) (.cons (.refl _) (.cons (.refl _) (.cons (.refl _) .nil))))))) (.cons (.refl _) .nil)), by repeat (first | exact hD | refine Drop.upd ?_ (by assumption))⟩
    · have hw' : ¬ w = bSplitL := fun e => hw ((bts_inj_split w).2 e)
      simp only [go_sem, xQ, ↓reduceIte, xA, xM, xL, xT, xE, xN, xP, xR, xS, H, h18, n8, n8', hw, decide_false]
      exact ⟨by omega, congrArg (fun n => AV.v (Value.int .i64 n)) (by decide), q2, hD.upd z8, fun _ => c1 (by omega), fun _ => hw'⟩
  · have hst : stO w W = none := stO_other (c1 (by omega)) (c2 (by omega))
    have hr : (if endsB s = true then stO w W else none) = none := by rw [hst]; split <;> rfl
    rw [hr]
    simp only [go_sem, xQ, ↓reduceIte, xA, xM, xL, xT, xE, xN, xP, xR, xS, H, h18, q2]
    exact ⟨.tup (.cons (.agg (.cons (.refl _) (.cons .nil (.cons (.refl _) (.cons (.refl _) (.cons (.refl _) (.cons (.refl _) .nil))))))) (.cons (.refl _) .nil)), by repeat (first | exact hD | refine Drop.upd ?_ (by assumption))⟩
end Go.AL

/- Parse of proofs, of the library. -/
set_option linter.unusedVariables false
set_option linter.unusedSimpArgs false
namespace Go.AL
open Go.Proofs
variable {Γ : Glob}
attribute [local irreducible] codeW opsW dopsW
theorem closedB_neAt {E : Nat → Blk → Prop} {σ σ' : Sig} {b b' : Nat} {cs : List AV} {s c : Nat} (hD : ¬ E b' (.row cs s c)) (hb : σ' b = none ∨ (σ b = none ∧ ∃ x, σ' b = some x ∧ Ctl x) ∨ ∃ x, σ' b = some x ∧ E b x) (h : σ' b' = some (.row cs s c)) : b' ≠ b := fun e => by
  subst e
  rcases hb with h1 | ⟨_, x, h1, hx⟩ | ⟨x, h1, hx⟩
  · rw [h] at h1; cases h1
  · rw [h] at h1; cases h1; exact hx
  · rw [h] at h1; cases h1; exact hD hx
theorem ClosedB.rowAt {E : Nat → Blk → Prop} {σ : Sig} {b' : Nat} {cs : List AV} {s c : Nat} (hD : ¬ E b' (.row cs s c)) : ClosedB E σ fun σ' => σ' b' = some (.row cs s c) := fun σ' b y hb h => by
  show upd σ' b y b' = _
  rw [upd_ne _ _ _ _ (closedB_neAt hD hb h)]; exact h
theorem Grow.noStr {σ0 σ : Sig} {s n : Nat} {a : AV} {cs : List AV} (h : Grow σ0 σ s a cs n) : ¬ KD lineC (.row [a] 1 1) := fun e => by
  rcases e with e | ⟨x, e⟩
  · exact e
  · cases e
    rcases h with ⟨h, _⟩ | ⟨b, c, h, _⟩
    · rcases h with h | h <;> cases h
    · cases h
theorem nil_noStr : ¬ KD lineC (.row [.v (.slice none 0 0)] 1 1) := (Grow.nil (fun _ => none) (fun _ => none) 1).noStr
theorem keep_cellN {σ σ' : Sig} {b : Nat} {cs : List AV} {s c : Nat} {y : Option Blk} (hk : Keep (KD lineC) σ σ') (hb : σ b = some (.row cs s c)) (hn : ¬ KD lineC (.row cs s c)) : Keep (KD lineC) σ (upd σ' b y) := hk.upd fun x hx => by
  rw [hb] at hx
  cases hx
  exact hn
theorem ints_noStr (n : Int) : ¬ KD lineC (.row [int n] 1 1) := no_lineK (.inr ⟨_, rfl⟩)
set_option maxHeartbeats 8000000 in
set_option maxRecDepth 20000 in
theorem f96 (hG1 : Γ 1 = some [int 0, int 0]) (hG3 : Γ 3 = some kindsT) (s : ByteArray) (hs : s.size ≤ 1000000) : PCalls Tryz.prog Γ 96 [str s] (.tup [prA (parPR s).1, int (parPR s).2.1, int (parPR s).2.2]) := by
  obtain ⟨rows, hrows⟩ : ∃ rows, cutL 10 s.data.toList = rows := ⟨_, rfl⟩
  have hrne : rows ≠ [] := hrows ▸ cutL_ne 10 _
  have hrm : ∀ r ∈ rows, (10 : UInt8) ∉ r ∧ r.length ≤ s.size := fun r hr => by
    rw [Lib.size_eq]
    exact cutL_mem 10 s.data.toList r (hrows ▸ hr)
  have hrl : rows.length ≤ s.size + 1 := by
    rw [← hrows, Lib.size_eq]
    exact cutL_len 10 _
  have hxs : linesX s = (linesR rows).map fun l => str (bts l) := by rw [linesX, linesL, hrows]
  refine pcalls (ok96 Γ) fun σ => ?_
  simp only [go_sem, xQ, ↓reduceIte, xA, xM, xL, xT, xE, xN, xP, xR, xS, Tryz.f96, str]
  intro b2 hb2
  simp only [go_sem, xQ, ↓reduceIte, xA, xM, xL, xT, xE, xN, xP, xR, xS]
  intro b3 hb3
  obtain ⟨n32, hb3'⟩ := un hb3
  have n23 : ¬ b2 = b3 := fun e => n32 e.symm
  simp only [go_sem, xQ, ↓reduceIte, xA, xM, xL, xT, xE, xN, xP, xR, xS]
  intro b4 hb4
  obtain ⟨n43, hb4'⟩ := un hb4
  obtain ⟨n42, hb4'⟩ := un hb4'
  have n34 : ¬ b3 = b4 := fun e => n43 e.symm
  have n24 : ¬ b2 = b4 := fun e => n42 e.symm
  by_cases h0 : (16384 : Int) < s.size
  · rw [parPR, if_pos h0]
    simp only [go_sem, xQ, ↓reduceIte, xA, xM, xL, xT, xE, xN, xP, xR, xS, n32, n23, n43, n42, n34, n24, h0]
    exact ⟨.tup (.cons (.agg (.cons .nil .nil)) (.cons (.refl _) (.cons (.refl _) .nil))), by repeat (first | exact Drop.refl _ | assumption | refine Drop.upd ?_ (by assumption))⟩
  rw [parPR, if_neg h0, hrows]
  simp only [go_sem, xQ, ↓reduceIte, xA, xM, xL, xT, xE, xN, xP, xR, xS, n32, n23, n43, n42, n34, n24, h0]
  intro b5 hb5
  obtain ⟨n54, hb5'⟩ := un hb5
  obtain ⟨n53, hb5'⟩ := un hb5'
  obtain ⟨n52, hb5'⟩ := un hb5'
  have N : (¬ b2 = b3 ∧ ¬ b3 = b2 ∧ ¬ b2 = b4 ∧ ¬ b4 = b2 ∧ ¬ b3 = b4 ∧ ¬ b4 = b3) ∧ (¬ b5 = b4 ∧ ¬ b4 = b5 ∧ ¬ b5 = b3 ∧ ¬ b3 = b5 ∧ ¬ b5 = b2 ∧ ¬ b2 = b5) :=
    ⟨⟨n23, n32, n24, n42, n34, n43⟩, ⟨n54, Ne.symm n54, n53, Ne.symm n53, n52, Ne.symm n52⟩⟩
  clear n23 n32 n24 n42 n34 n43 n54 n53 n52
  simp only [go_sem, xQ, ↓reduceIte, xA, xM, xL, xT, xE, xN, xP, xR, xS, N, upd_upd]
  refine callB_a (f185 s _ _ (fun bL hbL => ?_)) rfl
  simp only [go_sem, xQ, ↓reduceIte, xA, xM, xL, xT, xE, xN, xP, xR, xS, N]
  have hDs : Drop (upd (upd (upd (upd (upd σ b2 (some (.row [.v (.slice none 0 0)] 1 1))) b3 (some (.row [int 0] 1 1))) b4 (some (.row [int 0] 1 1))) b5 (some (.row [.v (.slice none 0 0)] 1 1))) bL (some (.row [str s] 1 1))) σ := by
    have := (un (un (un (un hbL).2).2).2).2
    repeat (first | exact Drop.refl _ | assumption | refine Drop.upd ?_ (by assumption))
  have hLs : σ bL = none := (un (un (un (un hbL).2).2).2).2
  have hDe : ∀ b x y, σ b = some x → ¬ lineE bL b y := fun b x y hx h => by rw [h.1, hLs] at hx; cases hx
  have nL : ¬ b2 = bL ∧ ¬ b3 = bL ∧ ¬ b4 = bL ∧ ¬ b5 = bL := by
    obtain ⟨m5, h⟩ := un hbL
    obtain ⟨m4, h⟩ := un h
    obtain ⟨m3, h⟩ := un h
    obtain ⟨m2, h⟩ := un h
    exact ⟨Ne.symm m2, Ne.symm m3, Ne.symm m4, Ne.symm m5⟩
  have hz5 : σ b5 = none := (un (un (un hb5).2).2).2
  refine SemC.rangeB (xs := linesX s) (D := lineC) (E := lineE bL) (pre := fun σ => σ bL = some (.row [str s] 1 1)) (f := 239) (first := []) (captured := [.v (.pointer (some ⟨bL, 0, none⟩))]) mixed (by simp only [go_sem, xQ, ↓reduceIte, xA, xM, xL, xT, xE, xN, xP, xR, xS]) (f239 s hs bL) (by decide) (by kernel_rfl) (by kernel_rfl) line_ctl (fun _ x h => line_ctl x h.2) (fun b1 c1 x y h1 h2 => by
      rw [upd_ne, upd_ne, upd_same]
      · exact fun e => by rw [← e, upd_same] at h1; cases h1
      · exact fun e => by rw [← e, upd_same] at h2; cases h2)
    (fun k σ' => ∃ p a, (parP rows 0 [] = parP (rows.drop k) k p ∧ rows.drop k ≠ [] ∧ p.length = k ∧ (∀ n ∈ p, n.factors.length ≤ 1000000)) ∧ σ' b2 = some (.row [.v (.slice none 0 0)] 1 1) ∧ σ' b3 = some (.row [int 0] 1 1) ∧ σ' b4 = some (.row [int 0] 1 1) ∧ σ' b5 = some (.row [a] 1 1) ∧ Grow σ σ' 6 a (p.flatMap stC) p.length ∧ Drop σ' σ)
    (fun e σ' => ∃ i : Int, (e = .ret ∧ parP rows 0 [] = ([], i, 23)) ∧ σ' b2 = some (.row [.v (.slice none 0 0)] 1 1) ∧ σ' b3 = some (.row [int i] 1 1) ∧ σ' b4 = some (.row [int 23] 1 1) ∧ Drop σ' σ)
    (fun k x ρ1 σ1 => ∃ l p a, ((linesR rows)[k]? = some l ∧ (ρ1 2 = .v (.pointer (some ⟨b2, 0, none⟩)) ∧ ρ1 3 = .v (.pointer (some ⟨b3, 0, none⟩)) ∧ ρ1 4 = .v (.pointer (some ⟨b4, 0, none⟩)) ∧ ρ1 5 = .v (.pointer (some ⟨b5, 0, none⟩)) ∧ ρ1 6 = str (bts l)) ∧ parP rows 0 [] = parP (rows.drop k) k p ∧ p.length = k ∧ (∀ n ∈ p, n.factors.length ≤ 1000000)) ∧ σ1 b2 = some (.row [.v (.slice none 0 0)] 1 1) ∧ σ1 b3 = some (.row [int 0] 1 1) ∧ σ1 b4 = some (.row [int 0] 1 1) ∧ σ1 b5 = some (.row [a] 1 1) ∧ Grow σ σ1 6 a (p.flatMap stC) p.length ∧ Drop σ1 σ)
    ?_ ?_ ?_ ?_ ?_ ?_ ?_ ?_
  · (intros; repeat' (first | exact ClosedB.rowAt (fun h => nL.1 h.1) | exact ClosedB.rowAt (fun h => nL.2.1 h.1) | exact ClosedB.rowAt (fun h => nL.2.2.1 h.1) | exact ClosedB.rowAt (fun h => nL.2.2.2 h.1) | exact ClosedB.grow (fun _ _ => no_lineE (.inl (by decide))) | exact ClosedB.drop hDs hDe | exact ClosedB.const _ | refine ClosedB.ex fun _ => ?_ | refine ClosedB.and ?_ ?_))
  · (intros; repeat' (first | exact ClosedB.rowAt (fun h => nL.1 h.1) | exact ClosedB.rowAt (fun h => nL.2.1 h.1) | exact ClosedB.rowAt (fun h => nL.2.2.1 h.1) | exact ClosedB.rowAt (fun h => nL.2.2.2 h.1) | exact ClosedB.grow (fun _ _ => no_lineE (.inl (by decide))) | exact ClosedB.drop hDs hDe | exact ClosedB.const _ | refine ClosedB.ex fun _ => ?_ | refine ClosedB.and ?_ ?_))
  · (intros; repeat' (first | exact ClosedB.rowAt (fun h => nL.1 h.1) | exact ClosedB.rowAt (fun h => nL.2.1 h.1) | exact ClosedB.rowAt (fun h => nL.2.2.1 h.1) | exact ClosedB.rowAt (fun h => nL.2.2.2 h.1) | exact ClosedB.grow (fun _ _ => no_lineE (.inl (by decide))) | exact ClosedB.drop hDs hDe | exact ClosedB.const _ | refine ClosedB.ex fun _ => ?_ | refine ClosedB.and ?_ ?_))
  · refine ⟨[], .v (.slice none 0 0), ⟨rfl, hrne, rfl, fun n hn => by cases hn⟩, ?_, ?_, ?_, ?_, .nil _ _ _, hDs⟩
    all_goals simp [upd, N, nL, int]
  · rintro k x E σ' l hE hx ⟨p, a, ⟨hz, hne, hfl, hfn⟩, q2, q3, q4, q5, hGr, hD⟩
    rw [hxs, List.getElem?_map] at hx
    obtain ⟨ln, hln, rfl⟩ := Option.map_eq_some_iff.1 hx
    have e2 : E 2 = .v (.pointer (some ⟨b2, 0, none⟩)) := by rw [hE 2 (by decide)]; simp only [go_sem, xQ, ↓reduceIte, xA, xM, xL, xT, xE, xN, xP, xR, xS]
    have e3 : E 3 = .v (.pointer (some ⟨b3, 0, none⟩)) := by rw [hE 3 (by decide)]; simp only [go_sem, xQ, ↓reduceIte, xA, xM, xL, xT, xE, xN, xP, xR, xS]
    have e4 : E 4 = .v (.pointer (some ⟨b4, 0, none⟩)) := by rw [hE 4 (by decide)]; simp only [go_sem, xQ, ↓reduceIte, xA, xM, xL, xT, xE, xN, xP, xR, xS]
    have e5 : E 5 = .v (.pointer (some ⟨b5, 0, none⟩)) := by rw [hE 5 (by decide)]; simp only [go_sem, xQ, ↓reduceIte, xA, xM, xL, xT, xE, xN, xP, xR, xS]
    simp only [go_sem, xQ, ↓reduceIte, xA, xM, xL, xT, xE, xN, xP, xR, xS, e2, e3, e4, e5, str]
    refine ⟨Keep.refl _ _, ln, p, a, ?_⟩
    simp only [go_sem, xQ, ↓reduceIte, xA, xM, xL, xT, xE, xN, xP, xR, xS, e2, e3, e4, e5, str]
    exact ⟨⟨hln, hz, hfl, hfn⟩, q2, q3, q4, q5, hGr, hD⟩
  · rintro k x ρ1 σ' l hx ⟨ln, p, a, ⟨hln, H, hz, hfl, hfn⟩, q2, q3, q4, q5, hGr, hD⟩
    obtain ⟨r, rs, hd, hcase⟩ := linesR_get rows k ln hln
    have hrr : r ∈ rows := List.mem_of_mem_drop (i := k) (by rw [hd]; simp)
    have hd1 : rows.drop (k + 1) = rs := by rw [← List.tail_drop, hd]; rfl
    obtain ⟨r10, rle⟩ := hrm r hrr
    have hkl : k < rows.length := by
      have := congrArg List.length hd
      rw [List.length_drop] at this
      simp at this
      omega
    rw [hd] at hz
    have hln1 : (bts ln).size ≤ 1000000 := by
      rw [bts_size]
      rcases hcase with ⟨_, rfl⟩ | ⟨_, rfl, _⟩
      · simp; omega
      · omega
    obtain ⟨w, W, hW⟩ := cutL_cons 32 (cutEnd (bts ln)).data.toList
    have hcall := f186 (Γ := Γ) hG3 (bts ln) hln1 w W hW
    obtain ⟨o, ho⟩ : ∃ o, (if endsB (bts ln) then stO w W else none) = o := ⟨_, rfl⟩
    rw [ho] at hcall
    have hzo : (o = none → parP rows 0 [] = ([], (k : Int), 23)) ∧ ∀ s, o = some s → rs ≠ [] ∧ stO w W = some s ∧ parP rows 0 [] = parP rs (k + 1) (p ++ [s]) := by
      rcases hcase with ⟨hrs, rfl⟩ | ⟨rfl, rfl, hrn⟩
      · rw [ends_nl, if_pos rfl] at ho
        rw [cut_nl, bts_data] at hW
        rw [parP_step hrs hW, ho] at hz
        refine ⟨fun e => ?_, fun s e => ?_⟩
        · subst e; exact hz
        · subst e; exact ⟨hrs, ho, hz⟩
      · rw [ends_none r10] at ho
        refine ⟨fun e => by rw [hz, parP_bad hrn], fun s e => ?_⟩
        rw [← ho] at e
        cases e
    have hWl : W.length ≤ 1000000 := by
      have := cutL_len 32 (cutEnd (bts ln)).data.toList
      rw [hW] at this
      have h2 := cutEnd_le (bts ln)
      rw [Lib.size_eq] at h2
      simp only [List.length_cons] at this
      omega
    cases o with
    | none =>
      have hz := hzo.1 rfl
      simp only [go_sem, xQ, ↓reduceIte, xA, xM, xL, xT, xE, xN, xP, xR, xS, H, N]
      refine callB_use (hcall) rfl ?_
      simp only [go_sem, xQ, ↓reduceIte, xA, xM, xL, xT, xE, xN, xP, xR, xS, H, N, stR, Option.isSome_none, Option.getD_none, stA, st0, stC]
      intro b7 hb7
      have m2 : ¬ b2 = b7 := nn hb7 q2
      have m3 : ¬ b3 = b7 := nn hb7 q3
      have m4 : ¬ b4 = b7 := nn hb7 q4
      have m5 : ¬ b5 = b7 := nn hb7 q5
      have M : (¬ b2 = b7 ∧ ¬ b7 = b2) ∧ (¬ b3 = b7 ∧ ¬ b7 = b3) ∧ (¬ b4 = b7 ∧ ¬ b7 = b4) ∧ (¬ b5 = b7 ∧ ¬ b7 = b5) := ⟨⟨m2, Ne.symm m2⟩, ⟨m3, Ne.symm m3⟩, ⟨m4, Ne.symm m4⟩, m5, Ne.symm m5⟩
      simp only [go_sem, xQ, ↓reduceIte, xA, xM, xL, xT, xE, xN, xP, xR, xS, H, N, M]
      rw [upd_upd]
      refine frzB_grow2 5 b5 (by simp only [go_sem, xQ, ↓reduceIte, xA, xM, xL, xT, xE, xN, xP, xR, xS, H]) (by (repeat rw [upd_ne _ _ _ _ m5]); exact q5) (hGr.upd hb7) (hGr.neS q5 (by decide)) (fun σf hDf hKf => ?_)
      have w2 : σf b2 = some (.row [.v (.slice none 0 0)] 1 1) := by rw [hKf b2 N.2.2.2.2.2.2 (hGr.neS q2 (by decide)), upd_ne _ _ _ _ m2]; exact q2
      have w3 : σf b3 = some (.row [int 0] 1 1) := by rw [hKf b3 N.2.2.2.2.1 (hGr.neS q3 (by decide)), upd_ne _ _ _ _ m3]; exact q3
      have w4 : σf b4 = some (.row [int 0] 1 1) := by rw [hKf b4 N.2.2.1 (hGr.neS q4 (by decide)), upd_ne _ _ _ _ m4]; exact q4
      have hkf : Keep (KD lineC) σ' σf := fun b x hb hx => by
        have hb7' : ¬ b = b7 := fun e => by rw [e, hb7] at hb; cases hb
        have hb5' : ¬ b = b5 := fun e => by rw [e, q5] at hb; cases hb; exact hGr.noStr hx
        rw [hKf b hb5' fun s1 o m e => ?_, upd_ne _ _ _ _ hb7']
        · exact hb
        · subst e
          rcases hGr with ⟨h | h, _⟩ | ⟨b', c, h0, h1, h2, h3⟩
          · cases h
          · cases h
          · cases h0
            rw [h2] at hb
            cases hb
            exact no_lineK (.inl (by decide)) hx
      have hDg : Drop σf σ := Drop.of fun b hb => by
        have hb5' : ¬ b = b5 := fun e => hb (e ▸ hz5)
        have hb7' : ¬ b = b7 := fun e => hb (e ▸ hD.free hb7)
        rw [hKf b hb5' (hGr.neB hb), upd_ne _ _ _ _ hb7']
        exact ((hD b).resolve_left hb).symm
      simp only [go_sem, xQ, ↓reduceIte, xA, xM, xL, xT, xE, xN, xP, xR, xS, H, N, w2, w3, w4, hfl]
      refine ⟨?_, k, hz, rfl, ?_⟩
      · refine keep_cellN (keep_cellN (keep_cellN hkf q2 nil_noStr) q3 (ints_noStr _)) q4 (ints_noStr _)
      · repeat (first | exact hDg | refine Drop.upd ?_ (by assumption))
    | some st =>
      obtain ⟨hrs, hst, hz⟩ := hzo.2 st rfl
      simp only [go_sem, xQ, ↓reduceIte, xA, xM, xL, xT, xE, xN, xP, xR, xS, H, N]
      refine callB_use (hcall) rfl ?_
      simp only [go_sem, xQ, ↓reduceIte, xA, xM, xL, xT, xE, xN, xP, xR, xS, H, N, stR, Option.isSome_some, Option.getD_some, stA, stC]
      intro b7 hb7
      have m2 : ¬ b2 = b7 := nn hb7 q2
      have m3 : ¬ b3 = b7 := nn hb7 q3
      have m4 : ¬ b4 = b7 := nn hb7 q4
      have m5 : ¬ b5 = b7 := nn hb7 q5
      have M : (¬ b2 = b7 ∧ ¬ b7 = b2) ∧ (¬ b3 = b7 ∧ ¬ b7 = b3) ∧ (¬ b4 = b7 ∧ ¬ b7 = b4) ∧ (¬ b5 = b7 ∧ ¬ b7 = b5) := ⟨⟨m2, Ne.symm m2⟩, ⟨m3, Ne.symm m3⟩, ⟨m4, Ne.symm m4⟩, m5, Ne.symm m5⟩
      have hca := hGr.cellsX
      have hoa := hGr.oneX
      simp only [go_sem, xQ, ↓reduceIte, xA, xM, xL, xT, xE, xN, xP, xR, xS, H, N, M, q5]
      refine appB_sl (cs := p.flatMap stC) (m := p.length) (n := 1) (appT_sl el34 tk179 by179 el34 (by decide) rfl (by decide)) (hD.upd (hD.free hb7)) (hGr.upd hb7) rfl rfl (by omega) (fun a' σ3 hD3 hO3 hG3 => ?_)
      have w2 : σ3 b2 = some (.row [.v (.slice none 0 0)] 1 1) := by rw [hO3 b2 (hGr.neS q2 (by decide)) (by simp [upd, M, q2])]; simp [upd, M, q2]
      have w3 : σ3 b3 = some (.row [int 0] 1 1) := by rw [hO3 b3 (hGr.neS q3 (by decide)) (by simp [upd, M, q3])]; simp [upd, M, q3]
      have w4 : σ3 b4 = some (.row [int 0] 1 1) := by rw [hO3 b4 (hGr.neS q4 (by decide)) (by simp [upd, M, q4])]; simp [upd, M, q4]
      have w5 : σ3 b5 = some (.row [a] 1 1) := by rw [hO3 b5 (hGr.neS q5 (by decide)) (by simp [upd, M, q5])]; simp [upd, M, q5]
      have hc2 := hG3.cellsX
      have ho2 := hG3.oneX
      simp only [go_sem, xQ, ↓reduceIte, xA, xM, xL, xT, xE, xN, xP, xR, xS, H, N, M, w2, w3, w4, w5, hc2, ho2]
      have hfit := stO_fit hst hWl
      refine ⟨?_, p ++ [st], a', ⟨by rw [hd1]; exact hz, by rw [hd1]; exact hrs, by simp only [List.length_append, List.length_cons, List.length_nil]; omega, fun x hx => ?_⟩, ?_⟩
      · have k1 : Keep (KD lineC) σ' σ3 := ((Keep.refl _ _).upd (keep_none hb7)).trans (keep_app hO3 (hGr.upd hb7) (by decide))
        exact k1.trans (keep_cellN (Keep.refl _ _) w5 hGr.noStr)
      · rcases List.mem_append.1 hx with hx | hx
        · exact hfn x hx
        · rw [List.mem_singleton.1 hx]; exact hfit
      have hg := hG3.updW (hG3.neS w5 (by decide)) (some (.row [a'] 1 1))
      refine ⟨rfl, ?_, hD3.upd hz5⟩
      simpa [stC, slI, int, ints] using hg
  · rintro σ' r hr' ⟨p, a, ⟨hz, hne, hfl, hfn⟩, q2, q3, q4, q5, hGr, hD⟩ hd
    have hll : (linesX s).length = (linesR rows).length := by rw [hxs, List.length_map]
    rw [hll] at hz hne hfl
    have hlr := linesR_len rows
    rw [linesR_end rows hne] at hz
    have u2 : ¬ b2 = r := dn hd q2
    have u3' : ¬ b3 = r := dn hd q3
    have u4 : ¬ b4 = r := dn hd q4
    have u5 : ¬ b5 = r := dn hd q5
    have U : (¬ b2 = r ∧ ¬ r = b2) ∧ (¬ b3 = r ∧ ¬ r = b3) ∧ (¬ b4 = r ∧ ¬ r = b4) ∧ (¬ b5 = r ∧ ¬ r = b5) := ⟨⟨u2, Ne.symm u2⟩, ⟨u3', Ne.symm u3'⟩, ⟨u4, Ne.symm u4⟩, u5, Ne.symm u5⟩
    obtain ⟨m, hm⟩ : ∃ m, (linesR rows).length = m := ⟨_, rfl⟩
    rw [hm] at hz hne hfl
    have hca := hGr.cellsX
    have hoa := hGr.oneX
    have hbr : σ r = none := (un (un (un (un (un hr').2).2).2).2).2
    rw [parP_last] at hz
    rw [hz]
    simp only [go_sem, xQ, ↓reduceIte, xA, xM, xL, xT, xE, xN, xP, xR, xS, N, U, q2, q3, q4, q5, hd, hca, hoa]
    refine callB_bor (f29 p 8 (by omega) (fun n hn => by have := hfn n hn; omega) hG1) rfl (.cons (.agg (.cons hGr.toNo2 .nil)) (.cons (.refl _) .nil)) ?_
    by_cases hck : checkFormE p 8 = 0
    · rw [if_pos hck]
      simp only [go_sem, xQ, ↓reduceIte, xA, xM, xL, xT, xE, xN, xP, xR, xS, N, U, q2, q3, q4, q5, hd, hck, hca, hoa, ers_upd]
      have hgf := (((hGr.updW (hGr.neS q2 (by decide)) (some (.row [a] 1 1))).updW (hGr.neS q3 (by decide)) (some (.row [int 0] 1 1))).updW (hGr.neS q4 (by decide)) (some (.row [int 0] 1 1))).updW (hGr.neO hd) none
      exact ⟨.tup (.cons (.agg (.cons (hgf.retP (by repeat (first | exact hD | refine Drop.upd ?_ (by assumption)))).1 .nil)) (.cons (.refl _) (.cons (.refl _) .nil))), by repeat (first | exact hD | refine Drop.upd ?_ (by assumption))⟩
    · rw [if_neg hck]
      simp only [go_sem, xQ, ↓reduceIte, xA, xM, xL, xT, xE, xN, xP, xR, xS, N, U, q2, q3, q4, q5, hd, hck, hca, hoa]
      refine frzB_grow2 5 b5 (by simp only [go_sem, xQ, ↓reduceIte, xA, xM, xL, xT, xE, xN, xP, xR, xS]) q5 hGr (hGr.neS q5 (by decide)) (fun σf hDf hKf => ?_)
      have w2 : σf b2 = some (.row [.v (.slice none 0 0)] 1 1) := by rw [hKf b2 N.2.2.2.2.2.2 (hGr.neS q2 (by decide))]; exact q2
      have w3 : σf b3 = some (.row [int 0] 1 1) := by rw [hKf b3 N.2.2.2.2.1 (hGr.neS q3 (by decide))]; exact q3
      have w4 : σf b4 = some (.row [int 0] 1 1) := by rw [hKf b4 N.2.2.1 (hGr.neS q4 (by decide))]; exact q4
      have hdf : σf r = some (.obj (.deferred (some []))) := by rw [hKf r (fun e => u5 e.symm) (hGr.neO hd)]; exact hd
      have hDg : Drop σf σ := Drop.of fun b hb => by
        have hb5' : ¬ b = b5 := fun e => hb (e ▸ hz5)
        rw [hKf b hb5' (hGr.neB hb)]
        exact ((hD b).resolve_left hb).symm
      simp only [go_sem, xQ, ↓reduceIte, xA, xM, xL, xT, xE, xN, xP, xR, xS, N, U, w2, w3, w4, hdf, hck, hfl, ers_upd]
      exact ⟨.tup (.cons (.agg (.cons .nil .nil)) (.cons (.refl _) (.cons (.refl _) .nil))), by repeat (first | exact hDg | refine Drop.upd ?_ (by assumption))⟩
  · rintro e σ' r hr' ⟨i, ⟨rfl, hz⟩, q2, q3, q4, hD⟩ hd
    have u2 : ¬ b2 = r := dn hd q2
    have u3' : ¬ b3 = r := dn hd q3
    have u4 : ¬ b4 = r := dn hd q4
    have U : (¬ b2 = r ∧ ¬ r = b2) ∧ (¬ b3 = r ∧ ¬ r = b3) ∧ (¬ b4 = r ∧ ¬ r = b4) := ⟨⟨u2, Ne.symm u2⟩, ⟨u3', Ne.symm u3'⟩, u4, Ne.symm u4⟩
    have hbr : σ r = none := (un (un (un (un (un hr').2).2).2).2).2
    rw [hz]
    simp only [go_sem, xQ, ↓reduceIte, xA, xM, xL, xT, xE, xN, xP, xR, xS, N, U, q2, q3, q4, hd, ers_upd]
    exact ⟨.tup (.cons (.agg (.cons .nil .nil)) (.cons (.refl _) (.cons (.refl _) .nil))), by repeat (first | exact hD | refine Drop.upd ?_ (by assumption))⟩
end Go.AL

/- Parse of proofs, of the reference. -/
set_option linter.unusedVariables false
set_option linter.unusedSimpArgs false
namespace Go.AL
open Go.Proofs
variable {Γ : Glob}
attribute [local irreducible] codeW opsW dopsW
@[reducible] noncomputable def p105z (Γ : Glob) : Par := par Γ [2, 7] [(1000018, [true])] [(21, [0, 1, 0, 4, 12, 0, 32, 96, 0, 256, 768, 0, 2048, 6144, 16128, 32764, 65532, 131071, 262143, 524287])]
theorem ok105z (Γ : Glob) : FnOk (p105z Γ) 105 112 (Tryz.f105.body.getD .skip) Tryz.f105.results.toList 1 := fnOk (par_mixed _ _ _ _) Tryz.func105 rfl rfl rfl (by kernel_rfl) (Nat.le_of_ble_eq_true rfl) (by kernel_rfl)
/-- The cells of steps, told before they are handed on. -/
def RawS (cs : List AV) (l : List St) : Prop := ∀ σ1 σ2 : Sig, FzL σ1 σ2 cs (l.flatMap stC)
theorem RawS.nil : RawS [] [] := fun _ _ => .nil
theorem RawS.app {cs xs : List AV} {l : List St} {s : St} (h : RawS cs l) (hx : ∀ σ1 σ2 : Sig, FzL σ1 σ2 xs (stC s)) : RawS (cs ++ xs) (l ++ [s]) := fun σ1 σ2 => by
  rw [List.flatMap_append, List.flatMap_singleton]
  exact (h σ1 σ2).app (hx σ1 σ2)
theorem leaf_eq (w : List UInt8) : ((bts w).toList == (⟨#[108, 101, 97, 102]⟩ : ByteArray).toList) = decide (w = bLeafL) := by
  rw [str_eq]
  by_cases h : w = bLeafL
  · rw [decide_eq_true h, h]; exact decide_eq_true rfl
  · rw [decide_eq_false h]
    exact decide_eq_false fun e => h ((bts_inj_leaf w).1 e.symm)
theorem split_eq (w : List UInt8) : ((bts w).toList == (⟨#[115, 112, 108, 105, 116]⟩ : ByteArray).toList) = decide (w = bSplitL) := by
  rw [str_eq]
  by_cases h : w = bSplitL
  · rw [decide_eq_true h, h]; exact decide_eq_true rfl
  · rw [decide_eq_false h]
    exact decide_eq_false fun e => h ((bts_inj_split w).1 e.symm)
set_option maxHeartbeats 8000000 in
set_option maxRecDepth 20000 in
theorem f105 (s : ByteArray) (hs : s.size ≤ 1000000) (hE : ∀ p : List St, checkFormE p 8 = checkFormR p 8) : PCalls Tryz.prog Γ 105 [str s] (.tup [prA (parPR s).1, int (parPR s).2.1, int (parPR s).2.2]) := by
  obtain ⟨rows, hrows⟩ : ∃ rows, cutL 10 s.data.toList = rows := ⟨_, rfl⟩
  have hrne : rows ≠ [] := hrows ▸ cutL_ne 10 _
  have hrm : ∀ r ∈ rows, (10 : UInt8) ∉ r ∧ r.length ≤ s.size := fun r hr => by
    rw [Lib.size_eq]
    exact cutL_mem 10 s.data.toList r (hrows ▸ hr)
  have hrl : rows.length ≤ s.size + 1 := by
    rw [← hrows, Lib.size_eq]
    exact cutL_len 10 _
  have hrp := List.length_pos_iff.2 hrne
  have hsl : slStr (rowsB 10 s) = .sl (strs (rows.map bts)) rows.length := by rw [rowsB, hrows, slStr, List.length_map]
  have hw1 : IntKind.i64.wrap ((rows.length : Int) - 1) = ((rows.length - 1 : Nat) : Int) := by
    rw [wrap_i64 _ (by omega) (by omega)]; omega
  refine pcalls (ok105z Γ) fun σ => ?_
  simp only [go_sem, xQ, ↓reduceIte, xA, xM, xL, xT, xE, xN, xP, xR, xS, Tryz.f105, str]
  intro b2 hb2
  by_cases h0 : (16384 : Int) < s.size
  · rw [parPR, if_pos h0]
    simp only [go_sem, xQ, ↓reduceIte, xA, xM, xL, xT, xE, xN, xP, xR, xS, h0]
    exact ⟨.tup (.cons (.agg (.cons .nil .nil)) (.cons (.refl _) (.cons (.refl _) .nil))), by repeat (first | exact Drop.refl _ | assumption | refine Drop.upd ?_ (by assumption))⟩
  rw [parPR, if_neg h0, hrows]
  simp only [go_sem, xQ, ↓reduceIte, xA, xM, xL, xT, xE, xN, xP, xR, xS, h0]
  refine callB_use (f189 10 s hs) rfl ?_
  simp only [go_sem, xQ, ↓reduceIte, xA, xM, xL, xT, xE, xN, xP, xR, xS, hsl, hw1]
  intro b7 hb7
  obtain ⟨n72, hb7'⟩ := un hb7
  have N : ¬ b7 = b2 ∧ ¬ b2 = b7 := ⟨n72, Ne.symm n72⟩
  simp only [go_sem, xQ, ↓reduceIte, xA, xM, xL, xT, xE, xN, xP, xR, xS, N]
  refine SemC.loopK mixed (rows.length - 1) (fun k ρ σ' ds => ds = [] ∧ (ρ 2 = .v (.pointer (some ⟨b2, 0, none⟩)) ∧ ρ 5 = .sl (strs (rows.map bts)) rows.length ∧ ρ 6 = int (rows.length - 1 : Nat) ∧ ρ 7 = .v (.pointer (some ⟨b7, 0, none⟩))) ∧ ρ 8 = int k ∧ ∃ p a cs, (parP rows 0 [] = parP (rows.drop k) k p ∧ p.length = k ∧ (∀ n ∈ p, n.factors.length ≤ 1000000) ∧ RawS cs p) ∧ σ' b2 = some (.row [.v (.slice none 0 0)] 1 1) ∧ σ' b7 = some (.row [a] 1 1) ∧ Grow σ σ' 6 a cs p.length ∧ Drop σ' σ) (by kernel_rfl) ?_ ?_
  · refine ⟨rfl, by simp only [go_sem, xQ, ↓reduceIte, xA, xM, xL, xT, xE, xN, xP, xR, xS, hw1], rfl, [], .v (.slice none 0 0), [], ⟨rfl, rfl, (fun n hn => by cases hn), .nil⟩, ?_, ?_, .nil _ _ _, ?_⟩
    · simp [upd, N, int]
    · simp [upd, N, int]
    · repeat (first | exact Drop.refl _ | assumption | refine Drop.upd ?_ (by assumption))
  rintro k ρ σ' ds hk ⟨rfl, H, h8, p, a, cs, ⟨hz, hfl, hfn, hraw⟩, q2, q7, hGr, hD⟩
  by_cases hkk : k < rows.length - 1
  · have hkk' : (k : Int) < ((rows.length - 1 : Nat) : Int) := by omega
    have hkk2 : (k : Int) < (rows.length : Int) := by omega
    obtain ⟨r, hr⟩ : ∃ r, rows[k]? = some r := ⟨rows[k]'(by omega), List.getElem?_eq_getElem _⟩
    have hd := drop_of_get hr
    have hrs : rows.drop (k + 1) ≠ [] := fun e => by
      have := congrArg List.length e
      rw [List.length_drop] at this
      simp at this
      omega
    obtain ⟨r10, rle⟩ := hrm r (mem_of_get hr)
    rw [hd] at hz
    have hsg := strs_get hr
    obtain ⟨w, W, hW⟩ := cutL_cons 32 r
    have hWl : W.length ≤ 1000000 := by have := cutL_len 32 r; rw [hW] at this; simp at this; omega
    have hWm : ∀ x ∈ W, x.length ≤ 1000000 := fun x hx => by have := (cutL_mem 32 r x (by rw [hW]; simp [hx])).2; omega
    have hro : slStr (rowsB 32 (bts r)) = .sl (str (bts w) :: strs (W.map bts)) (W.length + 1) := by rw [rowsB, bts_data, hW]; exact slW_cons w W
    have g1 : (1 : Int) ≤ ((W.length + 1 : Nat) : Int) := by omega
    have g0 : (0 : Int) < ((W.length + 1 : Nat) : Int) := by omega
    rw [parP_step hrs hW] at hz
    simp only [go_sem, xQ, ↓reduceIte, xA, xM, xL, xT, xE, xN, xP, xR, xS, H, h8, N, hkk', hkk2, hsg, Int.toNat_natCast, Int.natCast_nonneg, Nat.mul_one]
    refine callB_use (f189 32 (bts r) (by rw [bts_size]; omega)) rfl ?_
    simp only [go_sem, xQ, ↓reduceIte, xA, xM, xL, xT, xE, xN, xP, xR, xS, H, h8, N, hro, g1, g0]
    refine SemC.loopK mixed W.length (fun j ρ σ'' ds => ds = [] ∧ (ρ 2 = .v (.pointer (some ⟨b2, 0, none⟩)) ∧ ρ 5 = .sl (strs (rows.map bts)) rows.length ∧ ρ 6 = int (rows.length - 1 : Nat) ∧ ρ 7 = .v (.pointer (some ⟨b7, 0, none⟩)) ∧ ρ 8 = int k ∧ ρ 9 = .sl (str (bts w) :: strs (W.map bts)) (W.length + 1)) ∧ ρ 11 = int (j + 1 : Nat) ∧ Drop σ'' σ' ∧ ∃ acc, intsO 10 (W.take j) = some acc ∧ Grow σ' σ'' 1 (ρ 10) (ints acc) j) (by kernel_rfl) ?_ ?_
    · exact ⟨rfl, by simp only [go_sem, xQ, ↓reduceIte, xA, xM, xL, xT, xE, xN, xP, xR, xS, H, h8, hro], rfl, Drop.refl _, [], rfl, .nil _ _ _⟩
    clear H h8
    rintro j ρ σ'' ds hj ⟨rfl, H, h11, hD2, acc, hacc, hG2⟩
    rcases get_or_end W j hj with ⟨x, hx, hlt, hdj⟩ | hj
    · have hwx := strs_get hx
      have hwl := hWm x (mem_of_get hx)
      have hjw : ((j + 1 : Nat) : Int) < ((W.length + 1 : Nat) : Int) := by omega
      have hjl : j < W.length := lt_of_getElem? hx
      obtain ⟨y, hy⟩ : ∃ y, ρ 10 = y := ⟨_, rfl⟩
      rw [hy] at hG2
      have hjn : j + 1 < W.length + 1 := by omega
      simp only [go_sem, xQ, ↓reduceIte, xA, xM, xL, xT, xE, xN, xP, xR, xS, H, h11, N, hjw, hjn, hwx, Int.toNat_natCast, Int.natCast_nonneg, Nat.mul_one]
      refine callB_use (f190 (bts x) (by rw [bts_size]; exact hwl)) rfl ?_
      simp only [go_sem, xQ, ↓reduceIte, xA, xM, xL, xT, xE, xN, xP, xR, xS, H, h11, N, intR, bts_data]
      cases hn : intO 10 x with
      | none =>
        have hno : intsO 10 W = none := by
          have e := List.take_append_drop j W
          rw [hdj] at e
          rw [← e]
          exact intsO_none 10 x _ _ hn
        rw [stO_none hno] at hz
        have q2 := hD2.at q2
        have hD := hD2.trans hD
        simp only [go_sem, xQ, ↓reduceIte, xA, xM, xL, xT, xE, xN, xP, xR, xS, H, h11, N, Option.getD_none, Option.isSome_none, q2]
        rw [hz]
        exact ⟨.tup (.cons (.agg (.cons .nil .nil)) (.cons (.refl _) (.cons (.refl _) .nil))), by repeat (first | exact hD | refine Drop.upd ?_ (by assumption))⟩
      | some n =>
        simp only [go_sem, xQ, ↓reduceIte, xA, xM, xL, xT, xE, xN, xP, xR, xS, H, h11, N, Option.getD_some, Option.isSome_some, hy]
        refine appB_sl (appT_sl el46 tk3 by3 el46 (by decide) rfl (by decide)) hD2 hG2 rfl rfl (by omega) (fun a' σ2 hD3 hO hG3 => ?_)
        simp only [go_sem, xQ, ↓reduceIte, xA, xM, xL, xT, xE, xN, xP, xR, xS, H, h11, N]
        refine ⟨hlt, by rw [wrap_succ _ (by omega)], hD3, acc ++ [n], by rw [take_succ hx, intsO_snoc, hacc, hn], ?_⟩
        simpa [ints, int] using hG3
    · subst hj
      rw [List.take_length] at hacc
      have hjw : ¬ ((W.length + 1 : Nat) : Int) < ((W.length + 1 : Nat) : Int) := by omega
      obtain ⟨y, hy⟩ : ∃ y, ρ 10 = y := ⟨_, rfl⟩
      rw [hy] at hG2
      have hlen := intsO_len 10 W acc hacc
      rw [← hlen] at hG2
      simp only [go_sem, xQ, ↓reduceIte, xA, xM, xL, xT, xE, xN, xP, xR, xS, H, h11, N, hjw]
      refine frzB_grow 10 (by simp only [go_sem, xQ, ↓reduceIte, xA, xM, xL, xT, xE, xN, xP, xR, xS, H, hy]) hG2 hD2 (fun σf hDf hKf => ?_)
      have q2 := hDf.at q2
      have q7 := hDf.at q7
      have hGr : Grow σ σf 6 a cs p.length := hGr.mono fun b x hb => hDf.at hb
      have hD := hDf.trans hD
      simp only [go_sem, xQ, ↓reduceIte, xA, xM, xL, xT, xE, xN, xP, xR, xS, H, h11, N, g0, leaf_eq, split_eq]
      by_cases hv : w = bLeafL
      · have d1 := decide_eq_true hv
        have hn : stO w W = some ⟨true, acc, 0, 0, 0, 0⟩ := by rw [hv]; exact stO_leaf hacc
        rw [hn] at hz
        simp only [go_sem, xQ, ↓reduceIte, xA, xM, xL, xT, xE, xN, xP, xR, xS, H, h11, N, g0, d1]
        have hca := hGr.cellsX
        have hoa := hGr.oneX
        simp only [go_sem, xQ, ↓reduceIte, xA, xM, xL, xT, xE, xN, xP, xR, xS, H, N, q2, q7, hca, hoa]
        refine appB_sl (cs := cs) (m := p.length) (n := 1) (appT_sl el23 tk176 by176 el23 (by decide) rfl (by decide)) hD hGr rfl rfl (by omega) (fun a' σ3 hD3 hO3 hG3 => ?_)
        have w2 : σ3 b2 = some (.row [.v (.slice none 0 0)] 1 1) := by rw [hO3 b2 (hGr.neS q2 (by decide)) (by simp [q2])]; exact q2
        have w7 : σ3 b7 = some (.row [a] 1 1) := by rw [hO3 b7 (hGr.neS q7 (by decide)) (by simp [q7])]; exact q7
        have hc2 := hG3.cellsX
        have ho2 := hG3.oneX
        simp only [go_sem, xQ, ↓reduceIte, xA, xM, xL, xT, xE, xN, xP, xR, xS, H, N, w2, w7, hc2, ho2]
        have hfit := stO_fit hn hWl
        refine ⟨hkk, by rw [wrap_succ _ (by omega)], p ++ [⟨true, acc, 0, 0, 0, 0⟩], a', _, ⟨hz, by simp only [List.length_append, List.length_cons, List.length_nil]; omega, fun x hx => ?_, hraw.app (s := ⟨true, acc, 0, 0, 0, 0⟩) fun σ1 σ2 => .cons (.refl _) (.cons (.refl _) (.cons (.refl _) (.cons (.refl _) (.cons (.refl _) (.cons (.refl _) .nil)))))⟩, rfl, ?_, hD3.upd hb7'⟩
        · rcases List.mem_append.1 hx with hx | hx
          · exact hfn x hx
          · rw [List.mem_singleton.1 hx]; exact hfit
        · have hg := hG3.updW (hG3.neS w7 (by decide)) (some (.row [a'] 1 1))
          rw [List.length_append]
          exact hg
      · have d1 := decide_eq_false hv
        by_cases hv2 : w = bSplitL
        · have d2 := decide_eq_true hv2
          by_cases h4 : acc.length = 4
          · obtain ⟨c0, c1, c2, c3, rfl⟩ : ∃ c0 c1 c2 c3, acc = [c0, c1, c2, c3] := by
              match acc, h4 with
              | [c0, c1, c2, c3], _ => exact ⟨c0, c1, c2, c3, rfl⟩
            have hn : stO w W = some ⟨false, [], c0, c1, c2, c3⟩ := by rw [hv2]; exact stO_split hacc
            rw [hn] at hz
            simp only [go_sem, xQ, ↓reduceIte, xA, xM, xL, xT, xE, xN, xP, xR, xS, H, h11, N, g0, leaf_eq, split_eq, d1, d2]
            have hca := hGr.cellsX
            have hoa := hGr.oneX
            simp only [go_sem, xQ, ↓reduceIte, xA, xM, xL, xT, xE, xN, xP, xR, xS, H, N, q2, q7, hca, hoa]
            refine appB_sl (cs := cs) (m := p.length) (n := 1) (appT_sl el23 tk176 by176 el23 (by decide) rfl (by decide)) hD hGr rfl rfl (by omega) (fun a' σ3 hD3 hO3 hG3 => ?_)
            have w2 : σ3 b2 = some (.row [.v (.slice none 0 0)] 1 1) := by rw [hO3 b2 (hGr.neS q2 (by decide)) (by simp [q2])]; exact q2
            have w7 : σ3 b7 = some (.row [a] 1 1) := by rw [hO3 b7 (hGr.neS q7 (by decide)) (by simp [q7])]; exact q7
            have hc2 := hG3.cellsX
            have ho2 := hG3.oneX
            simp only [go_sem, xQ, ↓reduceIte, xA, xM, xL, xT, xE, xN, xP, xR, xS, H, N, w2, w7, hc2, ho2]
            have hfit := stO_fit hn hWl
            refine ⟨hkk, by rw [wrap_succ _ (by omega)], p ++ [⟨false, [], c0, c1, c2, c3⟩], a', _, ⟨hz, by simp only [List.length_append, List.length_cons, List.length_nil]; omega, fun x hx => ?_, hraw.app (s := ⟨false, [], c0, c1, c2, c3⟩) fun σ1 σ2 => .cons (.refl _) (.cons .nil (.cons (.refl _) (.cons (.refl _) (.cons (.refl _) (.cons (.refl _) .nil)))))⟩, rfl, ?_, hD3.upd hb7'⟩
            · rcases List.mem_append.1 hx with hx | hx
              · exact hfn x hx
              · rw [List.mem_singleton.1 hx]; exact hfit
            · have hg := hG3.updW (hG3.neS w7 (by decide)) (some (.row [a'] 1 1))
              rw [List.length_append]
              exact hg
          · have hn : stO w W = none := by rw [hv2]; exact stO_split_no hacc h4
            have h4' : ¬ (acc.length : Int) = 4 := by omega
            rw [hn] at hz
            simp only [go_sem, xQ, ↓reduceIte, xA, xM, xL, xT, xE, xN, xP, xR, xS, H, h11, N, g0, leaf_eq, split_eq, d1, d2, h4', decide_false, q2]
            rw [hz]
            exact ⟨.tup (.cons (.agg (.cons .nil .nil)) (.cons (.refl _) (.cons (.refl _) .nil))), by repeat (first | exact hD | refine Drop.upd ?_ (by assumption))⟩
        · have d2 := decide_eq_false hv2
          have hn : stO w W = none := stO_other hv hv2
          rw [hn] at hz
          simp only [go_sem, xQ, ↓reduceIte, xA, xM, xL, xT, xE, xN, xP, xR, xS, H, h11, N, g0, leaf_eq, split_eq, d1, d2, q2]
          rw [hz]
          exact ⟨.tup (.cons (.agg (.cons .nil .nil)) (.cons (.refl _) (.cons (.refl _) .nil))), by repeat (first | exact hD | refine Drop.upd ?_ (by assumption))⟩
  · have hkw : k = rows.length - 1 := by omega
    have hkk' : ¬ (k : Int) < ((rows.length - 1 : Nat) : Int) := by omega
    obtain ⟨r, hr⟩ : ∃ r, rows[k]? = some r := ⟨rows[k]'(by omega), List.getElem?_eq_getElem _⟩
    have hd : rows.drop k = [r] := by rw [drop_of_get hr, List.drop_eq_nil_of_le (by omega)]
    rw [hd] at hz
    rw [← hkw] at H hkk'
    have hsg := strs_get hr
    have hkk2 : (k : Int) < (rows.length : Int) := by omega
    have hca := hGr.cellsX
    have hoa := hGr.oneX
    by_cases hre : r = []
    · subst hre
      rw [parP_last] at hz
      simp only [go_sem, xQ, ↓reduceIte, xA, xM, xL, xT, xE, xN, xP, xR, xS, H, h8, N, hkk', hkk2, hsg, bts_nil, Int.toNat_natCast, Int.natCast_nonneg, Nat.mul_one, q2, q7, hca, hoa]
      refine callB_bor (f30 p 8 (by omega) (fun n hn => by have := hfn n hn; omega) fun s hs n v => f126 s n v (by have := hfn s hs; omega)) rfl (.cons (.agg (.cons (hGr.fzT (fun _ _ => rfl) (hraw _ _)) .nil)) (.cons (.refl _) .nil)) ?_
      rw [← hE]
      by_cases hck : checkFormE p 8 = 0
      · rw [if_pos hck] at hz
        rw [hz]
        simp only [go_sem, xQ, ↓reduceIte, xA, xM, xL, xT, xE, xN, xP, xR, xS, H, h8, N, hck, q2, q7, hca, hoa]
        have hgf := hGr.updW (hGr.neS q2 (by decide)) (some (.row [a] 1 1))
        exact ⟨.tup (.cons (.agg (.cons (hgf.fzT (fun _ h => h) (hraw _ _)) .nil)) (.cons (.refl _) (.cons (.refl _) .nil))), by repeat (first | exact hD | refine Drop.upd ?_ (by assumption))⟩
      · rw [if_neg hck] at hz
        simp only [go_sem, xQ, ↓reduceIte, xA, xM, xL, xT, xE, xN, xP, xR, xS, H, h8, N, hck, q2, q7, hca, hoa]
        rw [hz]
        exact ⟨.tup (.cons (.agg (.cons .nil .nil)) (.cons (.refl _) (.cons (.refl _) .nil))), by repeat (first | exact hD | refine Drop.upd ?_ (by assumption))⟩
    · rw [parP_bad hre] at hz
      have hne := bts_ne hre
      simp only [go_sem, xQ, ↓reduceIte, xA, xM, xL, xT, xE, xN, xP, xR, xS, H, h8, N, hkk', hkk2, hsg, hne, Int.toNat_natCast, Int.natCast_nonneg, Nat.mul_one, q2, q7]
      rw [hz]
      exact ⟨.tup (.cons (.agg (.cons .nil .nil)) (.cons (.refl _) (.cons (.refl _) .nil))), by repeat (first | exact hD | refine Drop.upd ?_ (by assumption))⟩
end Go.AL

/- Print of proofs, of the reference. -/
set_option linter.unusedVariables false
set_option linter.unusedSimpArgs false
namespace Go.AL
open Go.Proofs
variable {Γ : Glob}
attribute [local irreducible] codeW opsW dopsW
theorem SemC.sig {p : Par} {ro : Option Nat} {N : Nat} {c : Code} {Q : Post} {ρ : Env} {σ : Sig} {ds : List Nat} (h : ∀ τ, τ = σ → SemC p ro N c Q ρ τ ds) : SemC p ro N c Q ρ σ ds := h σ rfl
set_option maxHeartbeats 4000000 in
theorem f103 (p : List St) (m : Nat) (hm : m ≤ 1000) (hck : checkFormE p m = 0) : PCalls Tryz.prog Γ 103 [prA p] (str (printP itoaP p)) := by
  obtain ⟨hne, hl, hok⟩ := form_ok hck
  have hst := stepE_all hck
  rw [printP_bts]
  refine pcalls (ok103 Γ) fun σ => ?_
  simp only [go_sem, xQ, ↓reduceIte, xA, xM, xL, xT, xE, xN, xP, xR, xS, Tryz.f103]
  have hlb : ∀ s ∈ p, (lineS s).length ≤ 3700 := fun s hs => by
    obtain ⟨i, hi⟩ := List.mem_iff_getElem?.1 hs
    exact lineS_len (hst i s hi) hm (by have := lt_of_getElem? hi; omega)
  have hpre : ∀ k, ((p.take k).flatMap lineS).length ≤ 3700 * 127 := fun k => by
    have : ∀ l : List St, (∀ n ∈ l, (lineS n).length ≤ 3700) → (l.flatMap lineS).length ≤ 3700 * l.length := fun l => by
      induction l with
      | nil => intro _; simp
      | cons n l ih =>
        intro h
        have h1 := ih fun m hm => h m (List.mem_cons_of_mem _ hm)
        have h2 := h n (by simp)
        simp only [List.flatMap_cons, List.length_append, List.length_cons]
        omega
    have h1 := this (p.take k) fun n hn => hlb n (List.mem_of_mem_take hn)
    have h2 : (p.take k).length ≤ 127 := by rw [List.length_take]; omega
    omega
  refine SemC.loopK mixed p.length (fun k ρ σ' ds => ds = [] ∧ ρ 1 = .pp [slS p] 0 ∧ ρ 4 = int k ∧ Drop σ' σ ∧ ρ 3 = str (bts ((p.take k).flatMap lineS))) (by kernel_rfl) ?_ ?_
  · exact ⟨rfl, by simp only [go_sem, xQ, ↓reduceIte, xA, xM, xL, xT, xE, xN, xP, xR, xS], rfl, Drop.refl _, by simp only [go_sem, xQ, ↓reduceIte, xA, xM, xL, xT, xE, xN, xP, xR, xS, List.take_zero, List.flatMap_nil]; rfl⟩
  rintro k ρ σ' ds hk ⟨rfl, h1, h4, hD, h3⟩
  rcases get_or_end p k hk with ⟨s, hn, hlt, hd⟩ | hk
  · have hpk := hpre k
    obtain ⟨P, hPk⟩ : ∃ P, (p.take k).flatMap lineS = P := ⟨_, rfl⟩
    rw [hPk] at h3 hpk
    obtain ⟨hL1, hL2⟩ := step_nums (hst k s hn) hm (by omega)
    obtain ⟨L, hLn⟩ : ∃ L, lineL s = L := ⟨_, rfl⟩
    rw [hLn] at hL1 hL2
    have hwl := wordS_len s
    have hPs := bts_size P
    have hW0 : bts P ++ ⟨#[108, 101, 97, 102]⟩ = bts (P ++ bLeafL) := bts_app P bLeafL
    have c0 : (bts P).size + (#[108, 101, 97, 102] : Array UInt8).size ≤ 9223372036854775807 := by
      have : (#[108, 101, 97, 102] : Array UInt8).size = 4 := rfl
      omega
    simp only [go_sem, xQ, ↓reduceIte, xA, xM, xL, xT, xE, xN, xP, xR, xS, h1, h4, h3, hlt, slS, ↓st_part hn]
    intro b hb
    have zb := hD.free hb
    cases hlf : s.leaf with
    | true =>
      have hws : wordS s = bLeafL := by rw [wordS, hlf]; rfl
      have hLf : s.factors = L := by rw [← hLn, lineL, hlf]; rfl
      have hR0 : bts (P ++ bLeafL) = bts (P ++ wordS s) := by rw [hws]
      simp only [go_sem, xQ, ↓reduceIte, xA, xM, xL, xT, xE, xN, xP, xR, xS, h1, h4, h3, hlt, slS, ↓st_part hn, hlf, c0, hW0, hLf]
      refine SemC.sig fun τ hτ => ?_
      have hDτ : Drop τ σ := by rw [hτ]; repeat (first | exact hD | refine Drop.upd ?_ (by assumption))
      clear hτ
      refine SemC.loopK mixed L.length (fun j ρ σ'' ds => ds = [] ∧ σ'' = τ ∧ ρ 1 = .pp [slS p] 0 ∧ ρ 4 = int k ∧ ρ 6 = slI L ∧ ρ 7 = int j ∧ ρ 3 = str (bts (P ++ wordS s ++ numsB (L.take j)))) (by kernel_rfl) ?_ ?_
      · refine ⟨rfl, rfl, ?_, ?_, ?_, ?_, ?_⟩
        all_goals simp only [go_sem, xQ, ↓reduceIte, xA, xM, xL, xT, xE, xN, xP, xR, xS, h1, h4, h3, hLf, slI, List.take_zero, numsB, List.flatMap_nil, List.append_nil]
        all_goals first | exact congrArg (fun x => AV.v (Value.string x)) hR0 | (rw [← hLf]; rfl)
      rintro j ρ σ'' ds hj ⟨rfl, rfl, h1, h4, h6, h7, h3⟩
      rcases get_or_end L j hj with ⟨x, hx, hltj, hdj⟩ | hj
      · have hX := hL2 x (mem_of_get hx)
        have hXI : I64 x := ⟨by omega, by omega⟩
        have hXl := itoa_len hXI
        rw [← Lib.size_eq] at hXl
        have hnl := numsB_len (l := L.take j) fun y hy => hL2 y (List.mem_of_mem_take hy)
        obtain ⟨Y, hY⟩ : ∃ Y, P ++ wordS s ++ numsB (L.take j) = Y := ⟨_, rfl⟩
        have hYl : Y.length ≤ 2000000 := by rw [← hY]; simp only [List.length_append]; rw [List.length_take] at hnl; omega
        rw [hY] at h3
        have hYs := bts_size Y
        have c1 : (bts Y).size + (#[32] : Array UInt8).size ≤ 9223372036854775807 := by
          have : (#[32] : Array UInt8).size = 1 := rfl
          omega
        have c2 : (bts Y).size + (#[32] : Array UInt8).size + (itoaP x).size ≤ 9223372036854775807 := by
          have : (#[32] : Array UInt8).size = 1 := rfl
          omega
        have hgx : (ints L)[j]? = some (int x) := by rw [ints, List.getElem?_map, hx]; rfl
        simp only [go_sem, xQ, ↓reduceIte, xA, xM, xL, xT, xE, xN, xP, xR, xS, h1, h4, h6, h7, h3, hltj, slI, hL1, hgx, c1, Int.toNat_natCast, Nat.add_zero, Nat.zero_add]
        refine callB_use (f188 _ x (Nat.le_refl _) hXI) rfl ?_
        simp only [go_sem, xQ, ↓reduceIte, xA, xM, xL, xT, xE, xN, xP, xR, xS, h1, h4, h6, h7, h3, c2, app_sp]
        exact ⟨by rw [wrap_succ _ (by omega)], by rw [nums_take hx, ← hY]; simp⟩
      · subst hj
        rw [List.take_length] at h3
        have hnl := numsB_len (l := L) hL2
        obtain ⟨Y, hY⟩ : ∃ Y, P ++ wordS s ++ numsB L = Y := ⟨_, rfl⟩
        have hYl : Y.length ≤ 2000000 := by rw [← hY]; simp only [List.length_append]; omega
        rw [hY] at h3
        have hYs := bts_size Y
        have c1 : (bts Y).size + (#[10] : Array UInt8).size ≤ 9223372036854775807 := by
          have : (#[10] : Array UInt8).size = 1 := rfl
          omega
        simp only [go_sem, xQ, ↓reduceIte, xA, xM, xL, xT, xE, xN, xP, xR, xS, h1, h4, h6, h7, h3, slI, Nat.lt_irrefl, c1, app_nl]
        refine ⟨hlt, by rw [wrap_succ _ (by omega)], hDτ, ?_⟩
        rw [take_succ hn, List.flatMap_append, List.flatMap_singleton, hPk, lineS, bodyS, hLn, ← hY]
        simp
    | false =>
      have hws : wordS s = bSplitL := by rw [wordS, hlf]; rfl
      have hLf : [s.var, s.bound, s.k0, s.k1] = L := by rw [← hLn, lineL, hlf]; rfl
      have hs4 : (bts (P ++ bLeafL)).size = P.length + 4 := by rw [bts_size, List.length_append]; rfl
      have e4 : IntKind.i64.wrap (((bts (P ++ bLeafL)).size : Int) - 4) = (P.length : Int) := by rw [wrap_i64 _ (by omega) (by omega)]; omega
      have e5 : (P.length : Int) ≤ ((bts (P ++ bLeafL)).size : Int) := by omega
      have e6 : (0 : Int) ≤ (P.length : Int) := by omega
      have hcut : (bts (P ++ bLeafL)).extract 0 P.length = bts P := by rw [ext_data, bts_data]; simp
      have hW1 : bts P ++ ⟨#[115, 112, 108, 105, 116]⟩ = bts (P ++ wordS s) := by rw [hws]; exact bts_app P bSplitL
      have c5 : (bts P).size + (#[115, 112, 108, 105, 116] : Array UInt8).size ≤ 9223372036854775807 := by
        have : (#[115, 112, 108, 105, 116] : Array UInt8).size = 5 := rfl
        omega
      simp only [go_sem, xQ, ↓reduceIte, xA, xM, xL, xT, xE, xN, xP, xR, xS, h1, h4, h3, hlt, slS, ↓st_part hn, hlf, c0, hW0, e4, e5, e6, hcut, hW1, c5, Int.toNat_natCast]
      have hR0 : True := trivial
      refine SemC.sig fun τ hτ => ?_
      have hDτ : Drop τ σ := by rw [hτ]; repeat (first | exact hD | refine Drop.upd ?_ (by assumption))
      clear hτ
      refine SemC.loopK mixed L.length (fun j ρ σ'' ds => ds = [] ∧ σ'' = τ ∧ ρ 1 = .pp [slS p] 0 ∧ ρ 4 = int k ∧ ρ 6 = slI L ∧ ρ 7 = int j ∧ ρ 3 = str (bts (P ++ wordS s ++ numsB (L.take j)))) (by kernel_rfl) ?_ ?_
      · refine ⟨rfl, rfl, ?_, ?_, ?_, ?_, ?_⟩
        all_goals simp only [go_sem, xQ, ↓reduceIte, xA, xM, xL, xT, xE, xN, xP, xR, xS, h1, h4, h3, slI, List.take_zero, numsB, List.flatMap_nil, List.append_nil]
        all_goals first | exact congrArg (fun x => AV.v (Value.string x)) hR0 | (rw [← hLf]; rfl)
      rintro j ρ σ'' ds hj ⟨rfl, rfl, h1, h4, h6, h7, h3⟩
      rcases get_or_end L j hj with ⟨x, hx, hltj, hdj⟩ | hj
      · have hX := hL2 x (mem_of_get hx)
        have hXI : I64 x := ⟨by omega, by omega⟩
        have hXl := itoa_len hXI
        rw [← Lib.size_eq] at hXl
        have hnl := numsB_len (l := L.take j) fun y hy => hL2 y (List.mem_of_mem_take hy)
        obtain ⟨Y, hY⟩ : ∃ Y, P ++ wordS s ++ numsB (L.take j) = Y := ⟨_, rfl⟩
        have hYl : Y.length ≤ 2000000 := by rw [← hY]; simp only [List.length_append]; rw [List.length_take] at hnl; omega
        rw [hY] at h3
        have hYs := bts_size Y
        have c1 : (bts Y).size + (#[32] : Array UInt8).size ≤ 9223372036854775807 := by
          have : (#[32] : Array UInt8).size = 1 := rfl
          omega
        have c2 : (bts Y).size + (#[32] : Array UInt8).size + (itoaP x).size ≤ 9223372036854775807 := by
          have : (#[32] : Array UInt8).size = 1 := rfl
          omega
        have hgx : (ints L)[j]? = some (int x) := by rw [ints, List.getElem?_map, hx]; rfl
        simp only [go_sem, xQ, ↓reduceIte, xA, xM, xL, xT, xE, xN, xP, xR, xS, h1, h4, h6, h7, h3, hltj, slI, hL1, hgx, c1, Int.toNat_natCast, Nat.add_zero, Nat.zero_add]
        refine callB_use (f188 _ x (Nat.le_refl _) hXI) rfl ?_
        simp only [go_sem, xQ, ↓reduceIte, xA, xM, xL, xT, xE, xN, xP, xR, xS, h1, h4, h6, h7, h3, c2, app_sp]
        exact ⟨by rw [wrap_succ _ (by omega)], by rw [nums_take hx, ← hY]; simp⟩
      · subst hj
        rw [List.take_length] at h3
        have hnl := numsB_len (l := L) hL2
        obtain ⟨Y, hY⟩ : ∃ Y, P ++ wordS s ++ numsB L = Y := ⟨_, rfl⟩
        have hYl : Y.length ≤ 2000000 := by rw [← hY]; simp only [List.length_append]; omega
        rw [hY] at h3
        have hYs := bts_size Y
        have c1 : (bts Y).size + (#[10] : Array UInt8).size ≤ 9223372036854775807 := by
          have : (#[10] : Array UInt8).size = 1 := rfl
          omega
        simp only [go_sem, xQ, ↓reduceIte, xA, xM, xL, xT, xE, xN, xP, xR, xS, h1, h4, h6, h7, h3, slI, Nat.lt_irrefl, c1, app_nl]
        refine ⟨hlt, by rw [wrap_succ _ (by omega)], hDτ, ?_⟩
        rw [take_succ hn, List.flatMap_append, List.flatMap_singleton, hPk, lineS, bodyS, hLn, ← hY]
        simp
  · subst hk
    rw [List.take_length] at h3
    simp only [go_sem, xQ, ↓reduceIte, xA, xM, xL, xT, xE, xN, xP, xR, xS, h1, h4, h3, Nat.lt_irrefl, slS]
    exact retP_drop hD rfl
end Go.AL

/- Leaves of the reference. -/
set_option linter.unusedVariables false
set_option linter.unusedSimpArgs false
namespace Go.AL
open Go.Proofs
variable {Γ : Glob}
attribute [local irreducible] codeW opsW dopsW
def boolR (l : List Bool) : List AV := l.map fun b => .v (.bool b)
theorem boolR_get {l : List Bool} {i : Nat} {b : Bool} (h : l[i]? = some b) : (boolR l)[i]? = some (.v (.bool b)) := by rw [boolR, List.getElem?_map, h]; rfl
theorem boolR_put (l : List Bool) (i : Nat) (b : Bool) (h : i < l.length) : putL (boolR l) i [.v (.bool b)] = boolR (l.set i b) ∧ (boolR l).take i ++ [.v (.bool b)] ++ (boolR l).drop (i + 1) = boolR (l.set i b) := by
  have e : (boolR l).take i ++ [.v (.bool b)] ++ (boolR l).drop (i + 1) = boolR (l.set i b) := by
    rw [List.set_eq_take_append_cons_drop, if_pos h]
    simp [boolR]
  exact ⟨e, e⟩
theorem boolR_len (l : List Bool) : (boolR l).length = l.length := by simp [boolR]
theorem boolR_zero (n : Nat) : (List.replicate n [AV.v (.bool false)]).flatten = boolR (List.replicate n false) := by
  induction n with
  | zero => rfl
  | succ n ih => rw [List.replicate_succ, List.flatten_cons, ih]; rfl
theorem st_at : ∀ {p : List St} {i : Nat} {s : St}, p[i]? = some s → ∀ j, j < 6 → (p.flatMap stC)[i * 6 + j]? = (stC s)[j]?
  | [], i, s, h, _, _ => by simp at h
  | a :: p, 0, s, h, j, hj => by
    simp at h
    subst h
    rw [List.flatMap_cons, List.getElem?_append_left (by simp [stC]; omega), Nat.zero_mul, Nat.zero_add]
  | a :: p, i + 1, s, h, j, hj => by
    rw [List.flatMap_cons, List.getElem?_append_right (by simp [stC]; omega)]
    have e : (i + 1) * 6 + j - (stC a).length = i * 6 + j := by simp [stC]; omega
    rw [e]
    exact st_at (by simpa using h) j hj
set_option maxHeartbeats 4000000 in
theorem f104 (p : List St) (m : Nat) (hck : checkFormE p m = 0) : PCalls Tryz.prog Γ 104 [prA p] (int (cntR p 0)) := by
  obtain ⟨hne, hl, hok⟩ := form_ok hck
  have hp := List.length_pos_iff.2 hne
  have w1 : IntKind.i64.wrap ((p.length : Int) - 1) = ((p.length - 1 : Nat) : Int) := by rw [wrap_i64 _ (by omega) (by omega)]; omega
  have g1 : ((p.length - 1 : Nat) : Int) < (p.length : Int) := by omega
  have g2 : p.length - 1 < p.length := by omega
  have g3 : 1 * (p.length : Int) ≤ 140737488355328 := by omega
  have g4 : (p.length : Int) ≤ 9223372036854775807 := by omega
  refine pcalls (ok104 Γ) fun σ => ?_
  simp only [go_sem, xQ, ↓reduceIte, xA, xM, xL, xT, xE, xN, xP, xR, xS, Tryz.f104, w1, g1, g3, g4, slS, Int.toNat_natCast]
  intro b3 hb3
  simp only [go_sem, xQ, ↓reduceIte, xA, xM, xL, xT, xE, xN, xP, xR, xS, w1, g1, slS, Int.toNat_natCast, List.length_replicate]
  obtain ⟨M0, hM0⟩ : ∃ M0, (List.replicate p.length false).set (p.length - 1) true = M0 := ⟨_, rfl⟩
  have b0 := boolR_put (List.replicate p.length false) (p.length - 1) true (by simpa using g2)
  have b1 : p.length - 1 + 1 ≤ (boolR (List.replicate p.length false)).length := by rw [boolR_len, List.length_replicate]; omega
  rw [hM0] at b0
  simp only [go_sem, xQ, ↓reduceIte, xA, xM, xL, xT, xE, xN, xP, xR, xS, w1, g1, slS, boolR_zero, b0, b1]
  refine SemC.loopK mixed p.length (fun j ρ σ' ds => ds = [] ∧ (ρ 1 = .pp [slS p] 0 ∧ ρ 3 = .own b3 1 0 p.length) ∧ ρ 4 = int (cntR p (p.length - j)) ∧ ρ 5 = int ((p.length : Int) - 1 - j) ∧ Drop σ' σ ∧ ∃ mk, MarkOk p mk (p.length - j) ∧ σ' b3 = some (.row (boolR mk) 1 p.length)) (by kernel_rfl) ?_ ?_
  · refine ⟨rfl, by simp only [go_sem, xQ, ↓reduceIte, xA, xM, xL, xT, xE, xN, xP, xR, xS, slS], ?_, ?_, by repeat (first | exact Drop.refl _ | refine Drop.upd ?_ (by assumption)), M0, hM0 ▸ mark0 hne, upd_same _ _ _⟩
    · rw [Nat.sub_zero, cntR_end]; rfl
    · simp only [go_sem, xQ, ↓reduceIte, xA, xM, xL, xT, xE, xN, xP, xR, xS, w1]
      exact congrArg (fun n => AV.v (Value.int .i64 n)) (by omega)
  rintro j ρ σ' ds hj ⟨rfl, H, h4, h5, hD, mk, hmk, q3⟩
  have hml := hmk.1
  by_cases hjj : j < p.length
  · obtain ⟨i, hi⟩ : ∃ i, p.length - 1 - j = i := ⟨_, rfl⟩
    have e1 : p.length - j = i + 1 := by omega
    have e2 : (p.length : Int) - 1 - j = i := by omega
    have e3 : p.length - (j + 1) = i := by omega
    have hin : i < p.length := by omega
    rw [e1] at h4 hmk
    rw [e2] at h5
    obtain ⟨s, hs⟩ : ∃ s, p[i]? = some s := ⟨p[i], List.getElem?_eq_getElem hin⟩
    obtain ⟨bi, hbi⟩ : ∃ bi, mk[i]? = some bi := ⟨mk[i]'(by omega), List.getElem?_eq_getElem _⟩
    have hbg := boolR_get hbi
    have s0 : (p.flatMap stC)[i * 6]? = some (.v (.bool s.leaf)) := st_at hs 0 (by decide)
    have s4 : (p.flatMap stC)[i * 6 + 4]? = some (int s.k0) := st_at hs 4 (by decide)
    have s5 : (p.flatMap stC)[i * 6 + 5]? = some (int s.k1) := st_at hs 5 (by decide)
    have hre := hmk.here hok hne hin
    obtain ⟨c1, c2, c3⟩ := cntR_step hin hs
    have gi0 : (0 : Int) ≤ i := by omega
    have gi1 : (i : Int) < (p.length : Int) := by omega
    have wi : IntKind.i64.wrap ((i : Int) - 1) = (p.length : Int) - 1 - (j + 1 : Nat) := by rw [wrap_i64 _ (by omega) (by omega)]; omega
    have hcl : cntR p (i + 1) ≤ p.length := by
      rw [cntR]
      refine Nat.le_trans (List.length_filter_le _ _) ?_
      rw [List.length_range']
      omega
    cases bi with
    | false =>
      have hnr : ¬ Rch p i := fun h => by rw [hre.1 h] at hbi; cases hbi
      simp only [go_sem, xQ, ↓reduceIte, xA, xM, xL, xT, xE, xN, xP, xR, xS, H, h4, h5, q3, gi0, gi1, hbg, slS, Int.toNat_natCast, Nat.zero_add, Nat.mul_one]
      exact ⟨hjj, by rw [e3, c1 hnr], by rw [wi], hD, mk, by rw [e3]; exact hmk.skip hs (.inl hnr), rfl⟩
    | true =>
      have hr := hre.2 hbi
      cases hlf : s.leaf with
      | true =>
        simp only [go_sem, xQ, ↓reduceIte, xA, xM, xL, xT, xE, xN, xP, xR, xS, H, h4, h5, q3, gi0, gi1, hbg, slS, Int.toNat_natCast, Nat.zero_add, Nat.mul_one, s0, s4, s5, hlf]
        exact ⟨hjj, by rw [e3, c2 hr hlf, wrap_succ _ (by omega)], by rw [wi], hD, mk, by rw [e3]; exact hmk.skip hs (.inr hlf), rfl⟩
      | false =>
        obtain ⟨v, ka, kb, hv, hvm, ha, hai, hb, hbi2⟩ := hok i s hs hlf
        have k1 : ka < p.length := by omega
        have k2 : kb < p.length := by omega
        have k3 : (ka : Int) < (p.length : Int) := by omega
        have k4 : (kb : Int) < (p.length : Int) := by omega
        have k5 : ka + 1 ≤ (boolR mk).length := by rw [boolR_len]; omega
        have k6 : kb + 1 ≤ (boolR (mk.set ka true)).length := by rw [boolR_len, List.length_set]; omega
        have p1 := boolR_put mk ka true (by omega)
        have p2 := boolR_put (mk.set ka true) kb true (by rw [List.length_set]; omega)
        simp only [go_sem, xQ, ↓reduceIte, xA, xM, xL, xT, xE, xN, xP, xR, xS, H, h4, h5, q3, gi0, gi1, hbg, slS, Int.toNat_natCast, Nat.zero_add, Nat.mul_one, s0, s4, s5, hlf, ha, hb, k1, k2, k3, k4, k5, k6, p1, p2]
        refine ⟨hjj, by rw [e3, c3 hr hlf], by rw [wi], ?_, _, by rw [e3]; exact hmk.mark hok hs hr hlf, ?_⟩
        · repeat (first | exact hD | refine Drop.upd ?_ (by assumption))
        · rw [ha, hb]
          simp [upd]
  · have hj' : j = p.length := by omega
    subst hj'
    have e1 : (p.length : Int) - 1 - p.length = -1 := by omega
    rw [e1] at h5
    rw [Nat.sub_self] at h4
    simp only [go_sem, xQ, ↓reduceIte, xA, xM, xL, xT, xE, xN, xP, xR, xS, H, h4, h5]
    exact retP_drop hD rfl
end Go.AL

/- ProveStrings: the law holds at all proofs and all strings. -/
set_option linter.unusedVariables false
set_option linter.unusedSimpArgs false
namespace Go.AL
open Go.Proofs
variable {Γ : Glob}
attribute [local irreducible] codeW opsW dopsW
theorem vars_of {p : List St} {n : Int} (h : checkFormE p n = 0) : ∃ m : Nat, n = m ∧ m ≤ 8 := by
  unfold checkFormE at h
  by_cases he : firstE [withinE n 0 8, whenE (decide ((p.length : Int) = 0)) 10, whenE (decide (127 < (p.length : Int))) 5] = 0
  · have := within_zero ((firstE_zero _).1 he (withinE n 0 8) (by simp))
    exact ⟨n.toNat, by omega, by omega⟩
  · rw [if_neg he] at h; exact absurd h he
theorem reachF_len (p : List St) : ∀ (f : Nat) (todo seen : List Nat), (reachF p f todo seen).length ≤ f
  | 0, _, _ => Nat.le_refl _
  | _ + 1, [], _ => Nat.zero_le _
  | f + 1, i :: todo, seen => by
    rw [reachF]
    split
    · have := reachF_len p f todo seen; omega
    · split
      · exact Nat.zero_le _
      · rename_i s _
        have := reachF_len p f (if s.leaf then todo else todo ++ [s.k0.toNat, s.k1.toNat]) (seen ++ [i])
        rw [List.length_cons]
        omega
theorem proof_fit {p : List St} {m : Nat} (h : checkFormE p m = 0) : p.length ≤ 127 ∧ ∀ s ∈ p, s.factors.length ≤ 167 := by
  refine ⟨(form_ok h).2.1, fun s hs => ?_⟩
  obtain ⟨i, hi⟩ := List.mem_iff_getElem?.1 hs
  have hz := stepE_all h i s hi
  cases hl : s.leaf with
  | true => exact ((formOk_of h).leaf s hs hl).1
  | false =>
    rw [stepE, if_neg (by rw [hl]; decide)] at hz
    have a := (whenE_zero (by decide)).1 ((firstE_zero _).1 hz (whenE (decide (0 < (s.factors.length : Int))) 1) (by simp))
    simp at a
    rw [a]
    exact Nat.zero_le _
theorem parPR_fit (s : ByteArray) : (parPR s).1.length ≤ 127 ∧ ∀ x ∈ (parPR s).1, x.factors.length ≤ 167 := by
  have key : (parPR s).1 = [] ∨ checkFormE (parPR s).1 8 = 0 := by
    rw [parPR]
    split
    · exact .inl rfl
    · exact parP_fit _ _ _
  rcases key with h | h
  · rw [h]; exact ⟨Nat.zero_le _, fun n hn => by cases hn⟩
  · exact proof_fit (m := 8) h
theorem printP_len {p : List St} {m : Nat} (hm : m ≤ 1000) (h : checkFormE p m = 0) : (p.flatMap lineS).length ≤ 3700 * 127 := by
  have hl := (form_ok h).2.1
  have : ∀ l : List St, (∀ s ∈ l, (lineS s).length ≤ 3700) → (l.flatMap lineS).length ≤ 3700 * l.length := fun l => by
    induction l with
    | nil => intro _; simp
    | cons n l ih =>
      intro h
      have h1 := ih fun m hm => h m (List.mem_cons_of_mem _ hm)
      have h2 := h n (by simp)
      simp only [List.flatMap_cons, List.length_append, List.length_cons]
      omega
  have := this p fun s hs => by
    obtain ⟨i, hi⟩ := List.mem_iff_getElem?.1 hs
    exact lineS_len (stepE_all h i s hi) hm (by have := lt_of_getElem? hi; omega)
  omega
theorem lineOk_of {s : St} (h : (lineS s).length ≤ 3700) : LineOk itoaP s := by
  have e := lineP_data s
  have e2 : (lineP itoaP s).data.toList = Lib.join (((if s.leaf then bLeaf else bSplit) :: (lineL s).map itoaP).map (·.data.toList)) bSp.data.toList ++ [10] := by
    simp [lineP, joinP, bNl]
  have e3 := congrArg List.length (e.symm.trans e2)
  rw [List.length_append] at e3
  show _ ≤ 140737488355328
  omega
theorem f95i (hG1 : Γ 1 = some [int 0, int 0]) (hG3 : Γ 3 = some kindsT) (hG5 : Γ 5 = some powT) (p : List St) (n : Int) (hp : Fits p.length) (hpc : ∀ s ∈ p, s.factors.length ≤ 1000000) :
    PCalls Tryz.prog Γ 95 [prA p, int n] (.tup [str (if checkFormE p n = 0 then printP itoaP p else ⟨#[]⟩), int (checkFormE p n)]) := by
  by_cases h : checkFormE p n = 0
  · obtain ⟨m, rfl, hm⟩ := vars_of h
    have hst := stepE_all h
    have hl := (form_ok h).2.1
    have hmem : ∀ s ∈ p, ∃ i, i ≤ 127 ∧ stepE s (i : Nat) m = 0 := fun s hs => by
      obtain ⟨i, hi⟩ := List.mem_iff_getElem?.1 hs
      exact ⟨i, by have := lt_of_getElem? hi; omega, hst i s hi⟩
    refine f95 itoaP p m hp hpc hG1 hG3 (fun s hs x hx => ?_) (fun s hs => ?_) ?_
    · obtain ⟨i, hi, hz⟩ := hmem s hs
      have := (step_nums hz (by omega) (by omega)).2 x hx
      exact dcall_of (f238 hG5 x (by omega) (by omega)) rfl
    · obtain ⟨i, hi, hz⟩ := hmem s hs
      exact lineOk_of (lineS_len hz (by omega) (by omega))
    · have e := printP_data p
      have e2 : (printP itoaP p).data.toList = Lib.join ((p.map (lineP itoaP)).map (·.data.toList)) [] := rfl
      rw [← e2, e]
      have := printP_len (by omega) h
      omega
  · rw [if_neg h]
    refine pcalls (ok95 Γ) fun σ => ?_
    simp only [go_sem, xQ, ↓reduceIte, xA, xM, xL, xT, xE, xN, xP, xR, xS, Tryz.f95]
    refine callB_use (f29 p n hp (fun s hs => by have := hpc s hs; omega) hG1) rfl ?_
    simp only [go_sem, xQ, ↓reduceIte, xA, xM, xL, xT, xE, xN, xP, xR, xS, h]
set_option maxHeartbeats 4000000 in
set_option maxRecDepth 20000 in
theorem f17 (hG1 : Γ 1 = some [int 0, int 0]) (hG3 : Γ 3 = some kindsT) (hG5 : Γ 5 = some powT) (p : List St) (n : Int) (s : ByteArray) (hl : p.length ≤ 9223372036854775807) : PCalls Tryz.prog Γ 17 [prA p, int n, str s] (.v (.bool true)) := by
  have hf21 := f21 (Γ := Γ) p hl
  refine pcalls (ok17 Γ) fun σ => ?_
  cases hb : shortB p
  · simp only [go_sem, xQ, ↓reduceIte, xA, xM, xL, xT, xE, xN, xP, xR, xS, Tryz.f17, str]
    refine callB_use (hf21) rfl ?_
    simp only [go_sem, xQ, ↓reduceIte, xA, xM, xL, xT, xE, xN, xP, xR, xS, hb]
    refine callB_use (f22 hG1 hG3) rfl ?_
    simp only [go_sem, xQ, ↓reduceIte, xA, xM, xL, xT, xE, xN, xP, xR, xS]
  · obtain ⟨b1, b2⟩ := short_ok hb
    have hc : ∀ s ∈ p, Fits s.factors.length := fun s hs => by have := b2 s hs; omega
    have hc3 : ∀ s ∈ p, s.factors.length ≤ 1000000 := fun s hs => by have := b2 s hs; omega
    have hR : (reachP p).length ≤ 1000000 := by have := reachF_len p (3 * p.length + 2) [p.length - 1] []; rw [reachP]; omega
    by_cases h4 : (400 : Int) < s.size
    · by_cases h16 : (s.size : Int) = 16385
      · simp only [go_sem, xQ, ↓reduceIte, xA, xM, xL, xT, xE, xN, xP, xR, xS, Tryz.f17, str]
        refine callB_use (hf21) rfl ?_
        simp only [go_sem, xQ, ↓reduceIte, xA, xM, xL, xT, xE, xN, xP, xR, xS, hb, h4, h16]
        have h96 := f96 (Γ := Γ) hG1 hG3 s (by omega)
        have h105 := f105 (Γ := Γ) s (by omega) fun p => checkForm_eq p 8
        obtain ⟨p1, p2⟩ := parPR_fit s
        generalize (parPR s) = R at h96 h105 p1 p2
        obtain ⟨X, li, er⟩ := R
        simp only at h96 h105 p1 p2
        refine callB_use (f25 p (by omega) hc) rfl ?_
        simp only [go_sem, xQ, ↓reduceIte, xA, xM, xL, xT, xE, xN, xP, xR, xS, hb, h4, h16]
        refine callB_use (f102 p n (by omega) hc hG1 hR) rfl ?_
        simp only [go_sem, xQ, ↓reduceIte, xA, xM, xL, xT, xE, xN, xP, xR, xS, hb, h4, h16]
        refine callB_use (f25 p (by omega) hc) rfl ?_
        simp only [go_sem, xQ, ↓reduceIte, xA, xM, xL, xT, xE, xN, xP, xR, xS, hb, h4, h16]
        refine callB_use (f95i hG1 hG3 hG5 p n (by omega) hc3) rfl ?_
        simp only [go_sem, xQ, ↓reduceIte, xA, xM, xL, xT, xE, xN, xP, xR, xS, hb, h4, h16]
        refine callB_use (h96) rfl ?_
        simp only [go_sem, xQ, ↓reduceIte, xA, xM, xL, xT, xE, xN, xP, xR, xS, hb, h4, h16]
        intro b7 hb7
        simp only [go_sem, xQ, ↓reduceIte, xA, xM, xL, xT, xE, xN, xP, xR, xS, hb, h4, h16]
        refine callB_use (f30 p n (by omega) hc fun s hs n v => f126 s n v (hc s hs)) rfl ?_
        rw [← checkForm_eq]
        by_cases h2 : checkFormE p n = 0
        · obtain ⟨m, rfl, hm⟩ := vars_of h2
          obtain ⟨hne, _, hok⟩ := form_ok h2
          have hcn := cnt_eq hok hne
          simp only [go_sem, xQ, ↓reduceIte, xA, xM, xL, xT, xE, xN, xP, xR, xS, hb, h4, h16, h2, hcn]
          refine dcallB_use (f103 p m (by omega) h2) rfl ?_
          simp only [go_sem, xQ, ↓reduceIte, xA, xM, xL, xT, xE, xN, xP, xR, xS, h2, hcn]
          refine callB_use (f104 p m h2) rfl ?_
          simp only [go_sem, xQ, ↓reduceIte, xA, xM, xL, xT, xE, xN, xP, xR, xS, h2, hcn]
          refine callB_use (h105) rfl ?_
          simp only [go_sem, xQ, ↓reduceIte, xA, xM, xL, xT, xE, xN, xP, xR, xS, h2]
          intro b12 hb12
          obtain ⟨m1, hb12⟩ := un hb12
          have m1' : ¬ b7 = b12 := fun e => m1 e.symm
          simp only [go_sem, xQ, ↓reduceIte, xA, xM, xL, xT, xE, xN, xP, xR, xS, m1, m1', beq_bytes, h2]
          refine dcallB_use (f91 X (by omega)) rfl ?_
          simp only [go_sem, xQ, ↓reduceIte, xA, xM, xL, xT, xE, xN, xP, xR, xS, m1, m1', beq_bytes, h2]
          refine callB_use (f90 X X (by omega) (fun x hx => by have := p2 x hx; omega)) rfl ?_
          simp only [go_sem, xQ, ↓reduceIte, xA, xM, xL, xT, xE, xN, xP, xR, xS, m1, m1', beq_bytes, h2, decide_true]
          refine callB_use (f22 hG1 hG3) rfl ?_
          simp only [go_sem, xQ, ↓reduceIte, xA, xM, xL, xT, xE, xN, xP, xR, xS]
          exact retP_drop (by repeat (first | exact Drop.refl _ | assumption | refine Drop.upd ?_ (by assumption))) rfl
        · simp only [go_sem, xQ, ↓reduceIte, xA, xM, xL, xT, xE, xN, xP, xR, xS, hb, h4, h16, h2]
          refine callB_use (h105) rfl ?_
          simp only [go_sem, xQ, ↓reduceIte, xA, xM, xL, xT, xE, xN, xP, xR, xS, h2]
          intro b12 hb12
          obtain ⟨m1, hb12⟩ := un hb12
          have m1' : ¬ b7 = b12 := fun e => m1 e.symm
          simp only [go_sem, xQ, ↓reduceIte, xA, xM, xL, xT, xE, xN, xP, xR, xS, m1, m1', beq_bytes, h2]
          refine dcallB_use (f91 X (by omega)) rfl ?_
          simp only [go_sem, xQ, ↓reduceIte, xA, xM, xL, xT, xE, xN, xP, xR, xS, m1, m1', beq_bytes, h2]
          refine callB_use (f90 X X (by omega) (fun x hx => by have := p2 x hx; omega)) rfl ?_
          simp only [go_sem, xQ, ↓reduceIte, xA, xM, xL, xT, xE, xN, xP, xR, xS, m1, m1', beq_bytes, h2, decide_true]
          refine callB_use (f22 hG1 hG3) rfl ?_
          simp only [go_sem, xQ, ↓reduceIte, xA, xM, xL, xT, xE, xN, xP, xR, xS]
          exact retP_drop (by repeat (first | exact Drop.refl _ | assumption | refine Drop.upd ?_ (by assumption))) rfl
      · simp only [go_sem, xQ, ↓reduceIte, xA, xM, xL, xT, xE, xN, xP, xR, xS, Tryz.f17, str]
        refine callB_use (hf21) rfl ?_
        simp only [go_sem, xQ, ↓reduceIte, xA, xM, xL, xT, xE, xN, xP, xR, xS, hb, h4, h16]
        refine callB_use (f22 hG1 hG3) rfl ?_
        simp only [go_sem, xQ, ↓reduceIte, xA, xM, xL, xT, xE, xN, xP, xR, xS]
    · simp only [go_sem, xQ, ↓reduceIte, xA, xM, xL, xT, xE, xN, xP, xR, xS, Tryz.f17, str]
      refine callB_use (hf21) rfl ?_
      simp only [go_sem, xQ, ↓reduceIte, xA, xM, xL, xT, xE, xN, xP, xR, xS, hb, h4]
      have h96 := f96 (Γ := Γ) hG1 hG3 s (by omega)
      have h105 := f105 (Γ := Γ) s (by omega) fun p => checkForm_eq p 8
      obtain ⟨p1, p2⟩ := parPR_fit s
      generalize (parPR s) = R at h96 h105 p1 p2
      obtain ⟨X, li, er⟩ := R
      simp only at h96 h105 p1 p2
      refine callB_use (f25 p (by omega) hc) rfl ?_
      simp only [go_sem, xQ, ↓reduceIte, xA, xM, xL, xT, xE, xN, xP, xR, xS, hb, h4]
      refine callB_use (f102 p n (by omega) hc hG1 hR) rfl ?_
      simp only [go_sem, xQ, ↓reduceIte, xA, xM, xL, xT, xE, xN, xP, xR, xS, hb, h4]
      refine callB_use (f25 p (by omega) hc) rfl ?_
      simp only [go_sem, xQ, ↓reduceIte, xA, xM, xL, xT, xE, xN, xP, xR, xS, hb, h4]
      refine callB_use (f95i hG1 hG3 hG5 p n (by omega) hc3) rfl ?_
      simp only [go_sem, xQ, ↓reduceIte, xA, xM, xL, xT, xE, xN, xP, xR, xS, hb, h4]
      refine callB_use (h96) rfl ?_
      simp only [go_sem, xQ, ↓reduceIte, xA, xM, xL, xT, xE, xN, xP, xR, xS, hb, h4]
      intro b7 hb7
      simp only [go_sem, xQ, ↓reduceIte, xA, xM, xL, xT, xE, xN, xP, xR, xS, hb, h4]
      refine callB_use (f30 p n (by omega) hc fun s hs n v => f126 s n v (hc s hs)) rfl ?_
      rw [← checkForm_eq]
      by_cases h2 : checkFormE p n = 0
      · obtain ⟨m, rfl, hm⟩ := vars_of h2
        obtain ⟨hne, _, hok⟩ := form_ok h2
        have hcn := cnt_eq hok hne
        simp only [go_sem, xQ, ↓reduceIte, xA, xM, xL, xT, xE, xN, xP, xR, xS, hb, h4, h2, hcn]
        refine dcallB_use (f103 p m (by omega) h2) rfl ?_
        simp only [go_sem, xQ, ↓reduceIte, xA, xM, xL, xT, xE, xN, xP, xR, xS, h2, hcn]
        refine callB_use (f104 p m h2) rfl ?_
        simp only [go_sem, xQ, ↓reduceIte, xA, xM, xL, xT, xE, xN, xP, xR, xS, h2, hcn]
        refine callB_use (h105) rfl ?_
        simp only [go_sem, xQ, ↓reduceIte, xA, xM, xL, xT, xE, xN, xP, xR, xS, h2]
        intro b12 hb12
        obtain ⟨m1, hb12⟩ := un hb12
        have m1' : ¬ b7 = b12 := fun e => m1 e.symm
        simp only [go_sem, xQ, ↓reduceIte, xA, xM, xL, xT, xE, xN, xP, xR, xS, m1, m1', beq_bytes, h2]
        refine dcallB_use (f91 X (by omega)) rfl ?_
        simp only [go_sem, xQ, ↓reduceIte, xA, xM, xL, xT, xE, xN, xP, xR, xS, m1, m1', beq_bytes, h2]
        refine callB_use (f90 X X (by omega) (fun x hx => by have := p2 x hx; omega)) rfl ?_
        simp only [go_sem, xQ, ↓reduceIte, xA, xM, xL, xT, xE, xN, xP, xR, xS, m1, m1', beq_bytes, h2, decide_true]
        refine callB_use (f22 hG1 hG3) rfl ?_
        simp only [go_sem, xQ, ↓reduceIte, xA, xM, xL, xT, xE, xN, xP, xR, xS]
        exact retP_drop (by repeat (first | exact Drop.refl _ | assumption | refine Drop.upd ?_ (by assumption))) rfl
      · simp only [go_sem, xQ, ↓reduceIte, xA, xM, xL, xT, xE, xN, xP, xR, xS, hb, h4, h2]
        refine callB_use (h105) rfl ?_
        simp only [go_sem, xQ, ↓reduceIte, xA, xM, xL, xT, xE, xN, xP, xR, xS, h2]
        intro b12 hb12
        obtain ⟨m1, hb12⟩ := un hb12
        have m1' : ¬ b7 = b12 := fun e => m1 e.symm
        simp only [go_sem, xQ, ↓reduceIte, xA, xM, xL, xT, xE, xN, xP, xR, xS, m1, m1', beq_bytes, h2]
        refine dcallB_use (f91 X (by omega)) rfl ?_
        simp only [go_sem, xQ, ↓reduceIte, xA, xM, xL, xT, xE, xN, xP, xR, xS, m1, m1', beq_bytes, h2]
        refine callB_use (f90 X X (by omega) (fun x hx => by have := p2 x hx; omega)) rfl ?_
        simp only [go_sem, xQ, ↓reduceIte, xA, xM, xL, xT, xE, xN, xP, xR, xS, m1, m1', beq_bytes, h2, decide_true]
        refine callB_use (f22 hG1 hG3) rfl ?_
        simp only [go_sem, xQ, ↓reduceIte, xA, xM, xL, xT, xE, xN, xP, xR, xS]
        exact retP_drop (by repeat (first | exact Drop.refl _ | assumption | refine Drop.upd ?_ (by assumption))) rfl
end Go.AL
