/- The reference's cases, told plainly, and that they are the library's. -/
import Derived.Test.YtjimmpldofoimaaGreatDoorXe
import Derived.Test.YtjimmpldofoimaaGreatDoorXq
set_option linter.unusedVariables false
set_option linter.unusedSimpArgs false
namespace Go.AL
/-! ### The lists of the reference -/
def refOr : List (Option (List (List Tm))) → List (List Tm) → Option (List (List Tm))
 | [], acc => some acc
 | none :: _, _ => none
 | some C :: l, acc => if 64 < (acc ++ C).length then none else refOr l (acc ++ C)
def refAll : List (Option (List (List Tm))) → List (List (List Tm)) → Option (List (List (List Tm)))
 | [], acc => some acc
 | none :: _, _ => none
 | some C :: l, acc => refAll l (acc ++ [C])
def okP (C : List (List Tm)) : Bool := decide (C.length ≤ 64) && decide (maxL C ≤ 32)
def refProd : List (List (List Tm)) → List (List Tm) → Option (List (List Tm))
 | [], A => some A
 | C :: S, A => if okP (prodC A C) then refProd S (prodC A C) else none
def refAnd (S : List (List (List Tm))) : Option (List (List Tm)) := if S.any (fun x => decide (x.length = 0)) then some [] else refProd S [[]]
def atomR (n : Nd) (b : Bool) : List (List Tm) :=
 if n.kind = 0 then [[if b then timesT n.term (-1) (-1) else n.term]]
 else if b then [[timesT n.term 1 (-1)], [timesT n.term (-1) (-1)]] else [[n.term, timesT n.term (-1) 0]]
def mkR (n : Nd) (b : Bool) (sub : List (Option (List (List Tm)))) : Option (List (List Tm)) :=
 if n.kind = 0 ∨ n.kind = 1 then some (atomR n b)
 else if n.kind = 2 then sub.headD none
 else if (decide (n.kind = 4) != b) = true then refOr sub [] else (refAll sub []).bind refAnd
def refF (l : List Nd) : Nat → WayT → Option (List (List Tm))
 | 0, _ => none
 | fuel + 1, w => match l[w.1.toNat]? with
  | none => none
  | some n => mkR n w.2 (n.kids.map fun x => refF l fuel (x, w.2 != decide (n.kind = 2)))
def refW (l : List Nd) (w : WayT) : Option (List (List Tm)) := refF l (w.1.toNat + 1) w
theorem refF_st {l : List Nd} (hd : KidsDown l) : ∀ (fuel fuel' : Nat) (w : WayT), w.1.toNat < fuel → w.1.toNat < fuel' → refF l fuel w = refF l fuel' w
 | 0, _, _, h, _ => by omega
 | _ + 1, 0, _, _, h => by omega
 | fuel + 1, fuel' + 1, w, h, h' => by
  rw [refF, refF]
  cases hn : l[w.1.toNat]? with
  | none => rfl
  | some n =>
   have e : (n.kids.map fun x => refF l fuel (x, w.2 != decide (n.kind = 2))) = n.kids.map fun x => refF l fuel' (x, w.2 != decide (n.kind = 2)) := by
    refine List.map_congr_left fun x hx => ?_
    have := hd _ _ hn x hx
    exact refF_st hd fuel fuel' _ (by simp only; omega) (by simp only; omega)
   simp only [e]
def subR (l : List Nd) (n : Nd) (b : Bool) : List (Option (List (List Tm))) := n.kids.map fun x => refW l (x, b != decide (n.kind = 2))
theorem refW_eq {l : List Nd} (hd : KidsDown l) {i : Nat} {n : Nd} (hn : l[i]? = some n) (b : Bool) : refW l ((i : Int), b) = mkR n b (subR l n b) := by
 have e : (n.kids.map fun x => refF l i (x, b != decide (n.kind = 2))) = subR l n b := by
  refine List.map_congr_left fun x hx => ?_
  have := hd _ _ hn x hx
  exact refF_st hd _ _ _ (by simp only; omega) (by simp only; omega)
 rw [refW]
 simp only [Int.toNat_natCast, refF, hn, e]
/-! ### What the loops come to, once the kids are known -/
theorem refOr_none : ∀ (l : List (Option (List (List Tm)))) (acc : List (List Tm)), none ∈ l → refOr l acc = none
 | [], _, h => by cases h
 | none :: _, _, _ => rfl
 | some C :: l, acc, h => by
  rw [refOr]
  split
  ·rfl
  ·exact refOr_none l _ (by simpa using h)
theorem refAll_none : ∀ (l : List (Option (List (List Tm)))) (acc : List (List (List Tm))), none ∈ l → refAll l acc = none
 | [], _, h => by cases h
 | none :: _, _, _ => rfl
 | some C :: l, acc, h => by rw [refAll]; exact refAll_none l _ (by simpa using h)
theorem refAll_some : ∀ (S acc : List (List (List Tm))), refAll (S.map some) acc = some (acc ++ S)
 | [], acc => by simp [refAll]
 | C :: S, acc => by rw [List.map_cons, refAll, refAll_some S]; simp
theorem refOr_some : ∀ (S : List (List (List Tm))) (acc : List (List Tm)), acc.length ≤ 64 → refOr (S.map some) acc = if (acc ++ S.flatten).length ≤ 64 then some (acc ++ S.flatten) else none
 | [], acc, h => by simp [refOr, h]
 | C :: S, acc, h => by
  rw [List.map_cons, refOr]
  have e : acc ++ (C :: S).flatten = acc ++ C ++ S.flatten := by simp
  rw [e]
  split
  ·rename_i h2
   rw [if_neg]
   rw [List.length_append]
   omega
  ·rename_i h2
   exact refOr_some S _ (by omega)
theorem refProd_some : ∀ (S : List (List (List Tm))) (A : List (List Tm)), (∀ C ∈ S, C ≠ []) → A ≠ [] → okP A = true → refProd S A = if okP (S.foldl prodC A) then some (S.foldl prodC A) else none
 | [], A, _, _, hA => by rw [List.foldl_nil, hA]; rfl
 | C :: S, A, hS, hA, ho => by
  have hp : prodC A C ≠ [] := (prod_up [C] A (fun D hD => hS D (by simp at hD; simp [hD])) hA).2.2
  rw [refProd, List.foldl_cons]
  split
  ·rename_i h
   exact refProd_some S _ (fun D hD => hS D (List.mem_cons_of_mem _ hD)) hp h
  ·rename_i h
   obtain ⟨a1, a2, _⟩ := prod_up S (prodC A C) (fun D hD => hS D (List.mem_cons_of_mem _ hD)) hp
   rw [if_neg]
   intro h2
   refine h ?_
   unfold okP at h2 ⊢
   rw [Bool.and_eq_true, decide_eq_true_eq, decide_eq_true_eq] at h2 ⊢
   omega
theorem ok_nil : okP [[]] = true := rfl
/-! ### Terms -/
theorem wrap_wrap' (n : Int) : IntKind.i64.wrap (IntKind.i64.wrap n) = IntKind.i64.wrap n := by
 rw [IntKind.wrap_i64, IntKind.wrap_i64]; omega
theorem opp_timesN (t : Tm) (c : Int) : oppT t c = timesT t (-1) c := by
 have h : ∀ l : List Int, plusC (-1) (List.replicate l.length 0) l = l.map fun x => IntKind.i64.wrap (-1 * x) := by
  intro l
  induction l with
  | nil => rfl
  | cons x l ih => rw [List.length_cons, List.replicate_succ, plusC, ih, List.map_cons, Int.zero_add, wrap_wrap']
 rw [oppT, plusT, timesT, h, Int.add_comm]
theorem wrap_zero' : IntKind.i64.wrap (-1 * 0) = 0 := by decide
theorem less_opp (t : Tm) (c : Int) : lessT (oppT t c) 0 = oppT t c := by
 rw [lessT, plusT, plusC_nil]
 simp only [wrap_zero', Int.add_zero]
 rw [oppT, plusT]
 simp only [wrap_wrap']
theorem range_ok {t : Tm} {v : Int} (h : checkTermE t v = 0) : numbersE t = 0 := (firstE_zero _).1 h (numbersE t) (by simp)
theorem num_bd {t : Tm} (h : numbersE t = 0) : (∀ x ∈ t.coeffs, -1000000 ≤ x ∧ x ≤ 1000000) ∧ -1000000000000 ≤ t.const ∧ t.const ≤ 1000000000000 := by
 have hw : ∀ {n lo hi : Int}, withinE n lo hi = 0 → lo ≤ n ∧ n ≤ hi := fun {n lo hi} h => by
  unfold withinE at h
  split at h
  ·cases h
  ·omega
 have h0 := (firstE_zero _).1 h
 have h1 := (firstE_zero _).1 (h0 _ (List.mem_cons_self ..))
 exact ⟨fun x hx => hw (h1 _ (List.mem_map_of_mem hx)), hw (h0 _ (by simp))⟩
theorem less_zero {t : Tm} (h : numbersE t = 0) : lessT t 0 = t := by
 obtain ⟨_, h2, h3⟩ := num_bd h
 rw [lessT, plusT, plusC_nil]
 simp only [wrap_zero', Int.add_zero]
 rw [wrap_i64 _ (by omega) (by omega)]
theorem less_times {t : Tm} (h : numbersE t = 0) : lessT t 1 = timesT t 1 (-1) := by
 obtain ⟨h1, h2, h3⟩ := num_bd h
 have e : t.coeffs.map (fun x => IntKind.i64.wrap (1 * x)) = t.coeffs := by
  have : t.coeffs.map (fun x => IntKind.i64.wrap (1 * x)) = t.coeffs.map id := List.map_congr_left fun x hx => by
   have := h1 x hx
   rw [Int.one_mul, wrap_i64 _ (by omega) (by omega)]; rfl
  rw [this, List.map_id]
 have e1 : IntKind.i64.wrap (-1 * 1) = -1 := by decide
 rw [lessT, plusT, plusC_nil, timesT, e]
 simp only [e1, Int.one_mul]
 rw [wrap_i64 t.const (by omega) (by omega)]
theorem atom_eq {n : Nd} {i : Nat} {vars : Int} (h : NodeOk n i vars) (hk : n.kind = 0 ∨ n.kind = 1) (b : Bool) (S : List (List (List Tm))) : mkC (kindW n b) b n.term S = atomR n b := by
 have hN := range_ok (h.term (by omega)).1
 have hw : kindW n b = n.kind := by unfold kindW; rw [if_neg (by omega)]
 rw [hw, atomR]
 rcases hk with hk | hk
 ·rw [if_pos hk, mkC, if_pos hk]
  cases b
  ·simp only [Bool.false_eq_true, if_false]; rw [less_zero hN]
  ·simp only [if_true]; rw [less_opp, opp_timesN]
 ·rw [if_neg (by omega), mkC, if_neg (by omega), if_pos hk]
  cases b
  ·simp only [Bool.false_eq_true, if_false]; rw [less_zero hN, opp_timesN]
  ·simp only [if_true]; rw [less_times hN, opp_timesN]
/-! ### The lists of the reference are the library's -/
theorem bad_any {l : List Nd} {n : Nd} {b : Bool} (h : ¬ ∀ x ∈ n.kids, badW l (x, b != decide (n.kind = 2)) = false) : ∃ x ∈ n.kids, badW l (x, b != decide (n.kind = 2)) = true := by
 obtain ⟨x, hx⟩ := Classical.not_forall.1 h
 obtain ⟨hx, hb⟩ := Classical.not_imp.1 hx
 exact ⟨x, hx, by simpa using hb⟩
theorem mkR_none {n : Nd} {i : Nat} {vars : Int} (h : NodeOk n i vars) (b : Bool) {sub : List (Option (List (List Tm)))} (hl : sub.length = n.kids.length) (hm : none ∈ sub) : mkR n b sub = none := by
 have hk : ¬ (n.kind = 0 ∨ n.kind = 1) := fun hk => by
  have := (h.term (by omega)).2.2
  rw [this] at hl
  have : sub = [] := List.eq_nil_of_length_eq_zero hl
  rw [this] at hm
  cases hm
 rw [mkR, if_neg hk]
 split
 ·rename_i h2
  have := (h.form (by omega)).2.2.1 h2
  obtain ⟨x, hx⟩ := List.length_eq_one_iff.1 (hl.trans this)
  rw [hx] at hm ⊢
  simp at hm
  rw [← hm]
  rfl
 ·split
  ·exact refOr_none _ _ hm
  ·rw [refAll_none _ _ hm]; rfl
theorem mkR_some {n : Nd} {i : Nat} {vars : Int} (h : NodeOk n i vars) (b : Bool) {S : List (List (List Tm))} (hl : S.length = n.kids.length) (hS : ∀ C ∈ S, C.length ≤ 64 ∧ maxL C ≤ 32) : mkR n b (S.map some) = if okP (mkC (kindW n b) b n.term S) then some (mkC (kindW n b) b n.term S) else none := by
 have hlo := h.lo
 have hhi := h.hi
 rw [mkR]
 by_cases hk : n.kind = 0 ∨ n.kind = 1
 ·have ho : okP (atomR n b) = true := by
   unfold atomR
   rcases hk with hk | hk
   ·rw [if_pos hk]; rfl
   ·rw [if_neg (by omega)]; cases b <;> rfl
  rw [if_pos hk, atom_eq h hk, ho]; rfl
 ·rw [if_neg hk]
  by_cases h2 : n.kind = 2
  ·obtain ⟨C, hC⟩ := List.length_eq_one_iff.1 (hl.trans ((h.form (by omega)).2.2.1 h2))
   subst hC
   have hw : kindW n b = 2 := by unfold kindW; rw [if_neg (by omega)]; exact h2
   have e : mkC 2 b n.term [C] = C := rfl
   have ho : okP C = true := by
    have := hS C (by simp)
    unfold okP
    rw [Bool.and_eq_true, decide_eq_true_eq, decide_eq_true_eq]
    exact this
   rw [if_pos h2, hw, e, ho]; rfl
  ·rw [if_neg h2]
   by_cases h4 : (decide (n.kind = 4) != b) = true
   ·have hw : kindW n b = 4 := by
     unfold kindW
     cases b
     ·rw [if_neg (by simp)]; simpa using h4
     ·simp at h4
      rw [if_pos ⟨rfl, by omega⟩]; omega
    have e : mkC 4 b n.term S = S.flatten := rfl
    have hm : maxL S.flatten ≤ 32 := by
     clear hl hw e
     induction S with
     | nil => exact Nat.zero_le _
     | cons C S ih =>
      rw [List.flatten_cons, maxL_app]
      have := ih fun D hD => hS D (List.mem_cons_of_mem _ hD)
      have := (hS C (by simp)).2
      omega
    rw [if_pos h4, refOr_some S [] (by simp), List.nil_append, hw, e, okP]
    simp only [hm, decide_true, Bool.and_true, decide_eq_true_eq]
   ·have hw : kindW n b = 3 := by
     unfold kindW
     cases b
     ·rw [if_neg (by simp)]; simp at h4; omega
     ·simp at h4
      rw [if_pos ⟨rfl, by omega⟩]; omega
    have e : mkC 3 b n.term S = if S.any (fun x => decide (x.length = 0)) then [] else S.foldl prodC [[]] := rfl
    rw [if_neg h4, refAll_some, hw, e, List.nil_append]
    show refAnd S = _
    rw [refAnd]
    split
    ·rfl
    ·rename_i ha
     exact refProd_some S [[]] (fun C hC e => ha (List.any_eq_true.2 ⟨C, hC, by simp [e]⟩)) (by simp) ok_nil
theorem ok_size (C : List (List Tm)) : okP C = !badC (sizeC C) := by
 cases h : badC (sizeC C)
 ·have := size_bad.1 h
  unfold okP
  simp [this]
 ·have : ¬ (C.length ≤ 64 ∧ maxL C ≤ 32) := fun h2 => by rw [size_bad.2 h2] at h; cases h
  unfold okP
  simp only [Bool.not_true, Bool.and_eq_false_iff, decide_eq_false_iff_not]
  omega
theorem ref_cas {l : List Nd} {vars : Int} (hd : KidsDown l) (hok : ∀ k n, l[k]? = some n → NodeOk n k vars) : ∀ (N i : Nat) (b : Bool) (n : Nd), i < N → l[i]? = some n →
  refW l ((i : Int), b) = if badW l ((i : Int), b) = true then none else some (casW l ((i : Int), b))
 | 0, _, _, _, h, _ => by omega
 | N + 1, i, b, n, hi, hn => by
  have hkid : ∀ x ∈ n.kids, refW l (x, b != decide (n.kind = 2)) = if badW l (x, b != decide (n.kind = 2)) = true then none else some (casW l (x, b != decide (n.kind = 2))) := fun x hx => by
   have hxr := hd i n hn x hx
   obtain ⟨j, rfl⟩ := Int.eq_ofNat_of_zero_le hxr.1
   obtain ⟨nc, hnc⟩ : ∃ nc, l[j]? = some nc := ⟨l[j]'(by have := lt_of_getElem? hn; omega), List.getElem?_eq_getElem _⟩
   exact ref_cas hd hok N j _ nc (by omega) hnc
  rw [refW_eq hd hn]
  by_cases hk : ∀ x ∈ n.kids, badW l (x, b != decide (n.kind = 2)) = false
  ·have e : subR l n b = (subW l n b).map some := by
    rw [subR, subW, List.map_map]
    refine List.map_congr_left fun x hx => ?_
    rw [hkid x hx, hk x hx]; rfl
   have hb : badW l ((i : Int), b) = badC (sizeC (casW l ((i : Int), b))) := by
    rw [badW_eq hd hn, (cnt_cas hd hok (N + 1) i b n hi hn).1 hk]
    have : (n.kids.any fun x => badW l (x, b != decide (n.kind = 2))) = false := List.any_eq_false.2 fun x hx => by rw [hk x hx]; simp
    rw [this, Bool.or_false]
   have hS : ∀ C ∈ subW l n b, C.length ≤ 64 ∧ maxL C ≤ 32 := fun C hC => by
    obtain ⟨x, hx, rfl⟩ := List.mem_map.1 hC
    have hxr := hd i n hn x hx
    obtain ⟨j, rfl⟩ := Int.eq_ofNat_of_zero_le hxr.1
    obtain ⟨nc, hnc⟩ : ∃ nc, l[j]? = some nc := ⟨l[j]'(by have := lt_of_getElem? hn; omega), List.getElem?_eq_getElem _⟩
    have := (cnt_cas hd hok (j + 1) j _ nc (by omega) hnc).2 (hk _ hx)
    exact ⟨this.1, this.2.1⟩
   rw [e, mkR_some (hok i n hn) b (by simp [subW]) hS, ← casW_eq hd hn, hb, ok_size]
   cases badC (sizeC (casW l ((i : Int), b))) <;> rfl
  ·obtain ⟨x, hx, hbx⟩ := bad_any hk
   have hb : badW l ((i : Int), b) = true := by
    rw [badW_eq hd hn, Bool.or_eq_true]
    exact .inr (List.any_eq_true.2 ⟨x, hx, hbx⟩)
   have hm : none ∈ subR l n b := List.mem_map.2 ⟨x, hx, by rw [hkid x hx, if_pos hbx]⟩
   rw [mkR_none (hok i n hn) b (by simp [subR]) hm, if_pos hb]
/-! ### Which ways are used -/
def markK (kind : Int) (p t : Bool) : List Int → List Bool × List Bool → List Bool × List Bool
 | [], M => M
 | k :: l, (P, T) =>
  if kind = 2 then
   let T1 := T.set k.toNat ((T[k.toNat]?).getD false || p)
   markK kind p t l (P.set k.toNat ((P[k.toNat]?).getD false || t), T1)
  else markK kind p t l (P.set k.toNat ((P[k.toNat]?).getD false || p), T.set k.toNat ((T[k.toNat]?).getD false || t))
def badA (n : Nd) : Bool := decide (n.kind ≤ 1) && (!inRangeB (timesT n.term (-1) (-1)) || (decide (n.kind = 1) && !inRangeB (timesT n.term 1 (-1))))
def usedF (l : List Nd) : Nat → List Bool × List Bool → Bool
 | 0, _ => true
 | i + 1, M => match l[i]? with
  | none => true
  | some n =>
   if (M.2[i]?).getD false && badA n then false else usedF l i (markK n.kind ((M.1[i]?).getD false) ((M.2[i]?).getD false) n.kids M)
def usedB (l : List Nd) : Bool := usedF l l.length ((List.replicate l.length false).set (l.length - 1) true, List.replicate l.length false)
def hit (l : List Nd) (M : List Bool × List Bool) (j : Nat) : Prop := ((M.1[j]?).getD false = true ∧ larW l ((j : Int), false) = true) ∨ ((M.2[j]?).getD false = true ∧ larW l ((j : Int), true) = true)
theorem set_get {L : List Bool} {k j : Nat} {v : Bool} (hk : k < L.length) : ((L.set k v)[j]?).getD false = if k = j then v else (L[j]?).getD false := by
 rw [List.getElem?_set]
 split
 ·rename_i h
  subst h
  simp [hk]
 ·rfl
/-- After marking: what was marked stays marked, and the kids are marked by the way. -/
theorem mark_spec (kind : Int) (p t : Bool) : ∀ (ks : List Int) (P T : List Bool), (∀ k ∈ ks, 0 ≤ k ∧ k.toNat < P.length ∧ k.toNat < T.length) →
  let M := markK kind p t ks (P, T)
  M.1.length = P.length ∧ M.2.length = T.length ∧ ∀ j : Nat,
   (((M.1[j]?).getD false = true ↔ (P[j]?).getD false = true ∨ ((j : Int) ∈ ks ∧ (if kind = 2 then t else p) = true)) ∧
   ((M.2[j]?).getD false = true ↔ (T[j]?).getD false = true ∨ ((j : Int) ∈ ks ∧ (if kind = 2 then p else t) = true)))
 | [], P, T, _ => ⟨rfl, rfl, fun j => by simp [markK]⟩
 | k :: ks, P, T, h => by
  have hk := h k (by simp)
  obtain ⟨m, rfl⟩ := Int.eq_ofNat_of_zero_le hk.1
  simp only [Int.toNat_natCast] at hk
  by_cases h2 : kind = 2
  ·obtain ⟨a1, a2, a3⟩ := mark_spec kind p t ks (P.set m ((P[m]?).getD false || t)) (T.set m ((T[m]?).getD false || p)) (fun x hx => by
    have := h x (List.mem_cons_of_mem _ hx)
    simpa using this)
   simp only [markK, h2, if_true, Int.toNat_natCast] at a1 a2 a3 ⊢
   refine ⟨by simpa using a1, by simpa using a2, fun j => ?_⟩
   obtain ⟨b1, b2⟩ := a3 j
   rw [b1, b2, set_get hk.2.1, set_get hk.2.2]
   by_cases hj : m = j
   ·subst hj; simp; exact ⟨fun _ h => .inr h, fun _ h => .inr h⟩
   ·have : ¬ (j : Int) = (m : Int) := by omega
    simp [hj, this]
  ·obtain ⟨a1, a2, a3⟩ := mark_spec kind p t ks (P.set m ((P[m]?).getD false || p)) (T.set m ((T[m]?).getD false || t)) (fun x hx => by
    have := h x (List.mem_cons_of_mem _ hx)
    simpa using this)
   simp only [markK, h2, if_false, Int.toNat_natCast] at a1 a2 a3 ⊢
   refine ⟨by simpa using a1, by simpa using a2, fun j => ?_⟩
   obtain ⟨b1, b2⟩ := a3 j
   rw [b1, b2, set_get hk.2.1, set_get hk.2.2]
   by_cases hj : m = j
   ·subst hj; simp; exact ⟨fun _ h => .inr h, fun _ h => .inr h⟩
   ·have : ¬ (j : Int) = (m : Int) := by omega
    simp [hj, this]
theorem larT_eq (t : Tm) : larT t = !inRangeB t := by
 unfold larT largeE
 rw [numbers_eq]
 cases inRangeB t <;> simp [whenE]
theorem in_range {t : Tm} (h : numbersE t = 0) : inRangeB t = true := by
 rw [numbers_eq] at h
 cases hb : inRangeB t
 ·rw [hb] at h; simp [whenE] at h
 ·rfl
theorem range_neg {t : Tm} (h : numbersE t = 0) : inRangeB (timesT t (-1) 0) = true := by
 obtain ⟨h1, h2, h3⟩ := num_bd h
 have e : ∀ {n lo hi : Int}, lo ≤ n → n ≤ hi → withinE n lo hi = 0 := fun {n lo hi} a b => by unfold withinE; rw [if_neg (by omega)]
 rw [inRangeB_eq, Bool.and_eq_true, List.all_eq_true, decide_eq_true_eq]
 constructor
 ·intro x hx
  simp only [timesT] at hx
  obtain ⟨y, hy, rfl⟩ := List.mem_map.1 hx
  have := h1 y hy
  rw [decide_eq_true_eq, wrap_i64 _ (by omega) (by omega)]
  exact e (by omega) (by omega)
 ·simp only [timesT, Int.add_zero]
  rw [wrap_wrap', wrap_i64 _ (by omega) (by omega)]
  exact e (by omega) (by omega)
theorem mem_fold {u : Tm} : ∀ (S : List (List (List Tm))) (A : List (List Tm)) (x : List Tm), x ∈ S.foldl prodC A → u ∈ x → (∃ y ∈ A, u ∈ y) ∨ ∃ C ∈ S, ∃ y ∈ C, u ∈ y
 | [], A, x, hx, hu => .inl ⟨x, hx, hu⟩
 | C :: S, A, x, hx, hu => by
  rcases mem_fold S (prodC A C) x hx hu with ⟨y, hy, hu⟩ | ⟨D, hD, y, hy, hu⟩
  ·rw [prodC] at hy
   obtain ⟨a, ha, hy⟩ := List.mem_flatMap.1 hy
   obtain ⟨c, hc, rfl⟩ := List.mem_map.1 hy
   rcases List.mem_append.1 hu with hu | hu
   ·exact .inl ⟨a, ha, hu⟩
   ·exact .inr ⟨C, by simp, c, hc, hu⟩
  ·exact .inr ⟨D, List.mem_cons_of_mem _ hD, y, hy, hu⟩
theorem mem_mk {k : Int} {b : Bool} {t u : Tm} {S : List (List (List Tm))} (hk : k = 2 ∨ k = 3 ∨ k = 4) {x : List Tm} (hx : x ∈ mkC k b t S) (hu : u ∈ x) : ∃ C ∈ S, ∃ y ∈ C, u ∈ y := by
 rcases hk with rfl | rfl | rfl
 ·have e : mkC 2 b t S = S.getLastD [] := rfl
  rw [e] at hx
  cases S with
  | nil => simp at hx
  | cons C S =>
   rw [List.getLastD_cons] at hx
   refine ⟨_, ?_, x, hx, hu⟩
   have := List.getLast_mem (l := C :: S) (by simp)
   rwa [List.getLast_eq_getLastD] at this
 ·have e : mkC 3 b t S = if S.any (fun x => decide (x.length = 0)) then [] else S.foldl prodC [[]] := rfl
  rw [e] at hx
  split at hx
  ·cases hx
  ·rcases mem_fold S [[]] x hx hu with ⟨y, hy, hu⟩ | h
   ·simp at hy; subst hy; cases hu
   ·exact h
 ·have e : mkC 4 b t S = S.flatten := rfl
  rw [e] at hx
  obtain ⟨C, hC, hx⟩ := List.mem_flatten.1 hx
  exact ⟨C, hC, x, hx, hu⟩
theorem larC_iff {C : List (List Tm)} : larC C = true ↔ ∃ x ∈ C, ∃ u ∈ x, larT u = true := by
 unfold larC
 rw [List.any_eq_true]
 constructor
 ·rintro ⟨u, hu, h⟩
  obtain ⟨x, hx, hu⟩ := List.mem_flatten.1 hu
  exact ⟨x, hx, u, hu, h⟩
 ·rintro ⟨x, hx, u, hu, h⟩
  exact ⟨u, List.mem_flatten.2 ⟨x, hx, hu⟩, h⟩
theorem lar_kids {l : List Nd} {vars : Int} (hd : KidsDown l) (hok : ∀ k n, l[k]? = some n → NodeOk n k vars) {i : Nat} {n : Nd} (hn : l[i]? = some n) (h2 : 2 ≤ n.kind) (b : Bool) : larW l ((i : Int), b) = true ↔ ∃ x ∈ n.kids, larW l (x, b != decide (n.kind = 2)) = true := by
 rw [larW_eq hd hn, Bool.or_eq_true, List.any_eq_true]
 constructor
 ·rintro (h | h)
  ·obtain ⟨x, hx, u, hu, hl⟩ := larC_iff.1 h
   rw [casW_eq hd hn] at hx
   have hk : kindW n b = 2 ∨ kindW n b = 3 ∨ kindW n b = 4 := by
    have := (hok i n hn).hi
    unfold kindW
    split <;> omega
   obtain ⟨C, hC, y, hy, hu⟩ := mem_mk hk hx hu
   obtain ⟨c, hc, rfl⟩ := List.mem_map.1 hC
   have hxr := hd i n hn c hc
   obtain ⟨j, rfl⟩ := Int.eq_ofNat_of_zero_le hxr.1
   obtain ⟨nc, hnc⟩ : ∃ nc, l[j]? = some nc := ⟨l[j]'(by have := lt_of_getElem? hn; omega), List.getElem?_eq_getElem _⟩
   refine ⟨_, hc, ?_⟩
   rw [larW_eq hd hnc, Bool.or_eq_true]
   exact .inl (larC_iff.2 ⟨y, hy, u, hu, hl⟩)
  ·exact h
 ·exact .inr
theorem lar_atom {l : List Nd} {vars : Int} (hd : KidsDown l) (hok : ∀ k n, l[k]? = some n → NodeOk n k vars) {i : Nat} {n : Nd} (hn : l[i]? = some n) (h1 : n.kind ≤ 1) (b : Bool) : larW l ((i : Int), b) = (b && badA n) := by
 have hok := hok i n hn
 have hlo := hok.lo
 obtain ⟨ht, _, hk⟩ := hok.term h1
 have hN := range_ok ht
 have hr : inRangeB n.term = true := in_range hN
 have hr2 := range_neg hN
 rw [larW_eq hd hn, hk, List.any_nil, Bool.or_false, casW_eq hd hn, atom_eq hok (by omega), badA]
 have e1 : decide (n.kind ≤ 1) = true := decide_eq_true h1
 rw [e1, Bool.true_and]
 unfold atomR
 rcases (show n.kind = 0 ∨ n.kind = 1 by omega) with h | h
 ·have : ¬ n.kind = 1 := by omega
  cases b <;> simp [h, larC, larT_eq, hr]
 ·have : ¬ n.kind = 0 := by omega
  cases b
  ·simp [h, larC, larT_eq, hr, hr2]
  ·simp [h, larC, larT_eq, Bool.or_comm]
theorem used_iff {l : List Nd} {vars : Int} (hd : KidsDown l) (hok : ∀ k n, l[k]? = some n → NodeOk n k vars) : ∀ (i : Nat) (P T : List Bool), i ≤ l.length → P.length = l.length → T.length = l.length → (usedF l i (P, T) = false ↔ ∃ j, j < i ∧ hit l (P, T) j)
 | 0, P, T, _, _, _ => by simp [usedF]
 | i + 1, P, T, hi, hP, hT => by
  obtain ⟨n, hn⟩ : ∃ n, l[i]? = some n := ⟨l[i]'(by omega), List.getElem?_eq_getElem _⟩
  have hlo := (hok i n hn).lo
  have step : ∀ {Q : Nat → Prop}, (∃ j, j < i + 1 ∧ Q j) ↔ Q i ∨ ∃ j, j < i ∧ Q j := fun {Q} => by
   constructor
   ·rintro ⟨j, hj, h⟩
    by_cases e : j = i
    ·subst e; exact .inl h
    ·exact .inr ⟨j, by omega, h⟩
   ·rintro (h | ⟨j, hj, h⟩)
    ·exact ⟨i, by omega, h⟩
    ·exact ⟨j, by omega, h⟩
  rw [step, usedF, hn]
  simp only
  by_cases h1 : n.kind ≤ 1
  ·have hk := ((hok i n hn).term h1).2.2
   have hh : hit l (P, T) i ↔ ((T[i]?).getD false && badA n) = true := by
    unfold hit
    rw [lar_atom hd hok hn h1, lar_atom hd hok hn h1]
    simp
   rw [hk, markK, hh]
   cases hb : ((T[i]?).getD false && badA n)
   ·simp only [Bool.false_eq_true, if_false, false_or]
    exact used_iff hd hok i P T (by omega) hP hT
   ·simp
  ·have hb : badA n = false := by unfold badA; simp [h1]
   rw [hb, Bool.and_false]
   simp only [Bool.false_eq_true, if_false]
   have hks : ∀ k ∈ n.kids, 0 ≤ k ∧ k.toNat < P.length ∧ k.toNat < T.length := fun k hk => by
    have := hd i n hn k hk
    omega
   obtain ⟨m1, m2, m3⟩ := mark_spec n.kind ((P[i]?).getD false) ((T[i]?).getD false) n.kids P T hks
   have hM := used_iff hd hok i (markK n.kind ((P[i]?).getD false) ((T[i]?).getD false) n.kids (P, T)).1 (markK n.kind ((P[i]?).getD false) ((T[i]?).getD false) n.kids (P, T)).2 (by omega) (by rw [m1]; exact hP) (by rw [m2]; exact hT)
   rw [show ((markK n.kind ((P[i]?).getD false) ((T[i]?).getD false) n.kids (P, T)).1, (markK n.kind ((P[i]?).getD false) ((T[i]?).getD false) n.kids (P, T)).2) = markK n.kind ((P[i]?).getD false) ((T[i]?).getD false) n.kids (P, T) from rfl] at hM
   rw [hM]
   have h2 : 2 ≤ n.kind := by omega
   have lf := lar_kids hd hok hn h2 false
   have lt := lar_kids hd hok hn h2 true
   constructor
   ·rintro ⟨j, hj, h⟩
    unfold hit at h
    rw [(m3 j).1, (m3 j).2] at h
    rcases h with ⟨h | ⟨hm, h⟩, hl⟩ | ⟨h | ⟨hm, h⟩, hl⟩
    ·exact .inr ⟨j, hj, .inl ⟨h, hl⟩⟩
    ·refine .inl ?_
     by_cases hk : n.kind = 2
     ·rw [if_pos hk] at h
      exact .inr ⟨h, lt.2 ⟨_, hm, by simpa [hk] using hl⟩⟩
     ·rw [if_neg hk] at h
      exact .inl ⟨h, lf.2 ⟨_, hm, by simpa [hk] using hl⟩⟩
    ·exact .inr ⟨j, hj, .inr ⟨h, hl⟩⟩
    ·refine .inl ?_
     by_cases hk : n.kind = 2
     ·rw [if_pos hk] at h
      exact .inl ⟨h, lf.2 ⟨_, hm, by simpa [hk] using hl⟩⟩
     ·rw [if_neg hk] at h
      exact .inr ⟨h, lt.2 ⟨_, hm, by simpa [hk] using hl⟩⟩
   ·rintro (h | ⟨j, hj, h⟩)
    ·rcases h with ⟨h, hl⟩ | ⟨h, hl⟩
     ·obtain ⟨x, hx, hl⟩ := lf.1 hl
      have hxr := hd i n hn x hx
      obtain ⟨j, rfl⟩ := Int.eq_ofNat_of_zero_le hxr.1
      refine ⟨j, by omega, ?_⟩
      by_cases hk : n.kind = 2
      ·exact .inr ⟨(m3 j).2.2 (.inr ⟨hx, by rw [if_pos hk]; exact h⟩), by simpa [hk] using hl⟩
      ·exact .inl ⟨(m3 j).1.2 (.inr ⟨hx, by rw [if_neg hk]; exact h⟩), by simpa [hk] using hl⟩
     ·obtain ⟨x, hx, hl⟩ := lt.1 hl
      have hxr := hd i n hn x hx
      obtain ⟨j, rfl⟩ := Int.eq_ofNat_of_zero_le hxr.1
      refine ⟨j, by omega, ?_⟩
      by_cases hk : n.kind = 2
      ·exact .inl ⟨(m3 j).1.2 (.inr ⟨hx, by rw [if_pos hk]; exact h⟩), by simpa [hk] using hl⟩
      ·exact .inr ⟨(m3 j).2.2 (.inr ⟨hx, by rw [if_neg hk]; exact h⟩), by simpa [hk] using hl⟩
    ·refine ⟨j, hj, ?_⟩
     rcases h with ⟨h, hl⟩ | ⟨h, hl⟩
     ·exact .inl ⟨(m3 j).1.2 (.inl h), hl⟩
     ·exact .inr ⟨(m3 j).2.2 (.inl h), hl⟩
theorem used_eq {l : List Nd} {vars : Int} (hd : KidsDown l) (hok : ∀ k n, l[k]? = some n → NodeOk n k vars) (hne : l ≠ []) : usedB l = !larW l ((l.length : Int) - 1, false) := by
 have hpos := List.length_pos_iff.2 hne
 have e : ((l.length : Int) - 1) = ((l.length - 1 : Nat) : Int) := by omega
 have h := used_iff hd hok l.length ((List.replicate l.length false).set (l.length - 1) true) (List.replicate l.length false) (Nat.le_refl _) (by simp) (by simp)
 have hr : ∀ j, ((List.replicate l.length false)[j]?).getD false = false := fun j => by
  rw [List.getElem?_replicate]; split <;> rfl
 have h2 : (∃ j, j < l.length ∧ hit l ((List.replicate l.length false).set (l.length - 1) true, List.replicate l.length false) j) ↔ larW l ((l.length : Int) - 1, false) = true := by
  rw [e]
  constructor
  ·rintro ⟨j, hj, ⟨h, hl⟩ | ⟨h, hl⟩⟩
   ·simp only at h
    rw [set_get (by simp; omega), hr] at h
    split at h
    ·rename_i hjj; rw [hjj]; exact hl
    ·cases h
   ·simp only at h
    rw [hr] at h; cases h
  ·intro hl
   refine ⟨l.length - 1, by omega, .inl ⟨?_, hl⟩⟩
   simp only
   rw [set_get (by simp; omega), if_pos rfl]
 rw [h2] at h
 unfold usedB
 cases hu : usedF l l.length ((List.replicate l.length false).set (l.length - 1) true, List.replicate l.length false)
 ·rw [h.1 hu]; rfl
 ·cases hw : larW l ((l.length : Int) - 1, false)
  ·rfl
  ·rw [h.2 hw] at hu; cases hu
end Go.AL

/- What the cases mean: a node holds exactly if all terms of one of its cases are at least 0. -/
set_option linter.unusedVariables false
set_option linter.unusedSimpArgs false
namespace Go.AL
/-! ### Exact values -/
def dotZ : List Int → List Int → Int
 | c :: cs, v :: vs => c * v + dotZ cs vs
 | _, _ => 0
def valZ (t : Tm) (vs : List Int) : Int := t.const + dotZ t.coeffs vs
def ValZ (vs : List Int) : Prop := ∀ v ∈ vs, -4294967295 ≤ v ∧ v ≤ 4294967295
def CsZ (cs : List Int) : Prop := ∀ c ∈ cs, -1000000 ≤ c ∧ c ≤ 1000000
theorem mul_bdZ {c h : Int} (hc : -1000000 ≤ c ∧ c ≤ 1000000) (hh : -4294967295 ≤ h ∧ h ≤ 4294967295) : -4294967295000000 ≤ c * h ∧ c * h ≤ 4294967295000000 := by
 have h1 : (c * h).natAbs ≤ 1000000 * 4294967295 := by
  rw [Int.natAbs_mul]
  exact Nat.mul_le_mul (by omega) (by omega)
 omega
theorem valueF_Z : ∀ (cs vs : List Int) (n B : Int), -B ≤ n → n ≤ B → B + cs.length * 4294967295000000 ≤ 9000000000000000000 → CsZ cs → ValZ vs → valueF cs vs n = n + dotZ cs vs
 | [], _, n, _, _, _, _, _, _ => by simp [valueF, dotZ]
 | _ :: _, [], n, _, _, _, _, _, _ => by simp [valueF, dotZ]
 | c :: cs, v :: vs, n, B, h1, h2, hB, hc, hv => by
  have hcc := hc c List.mem_cons_self
  have hvv := hv v List.mem_cons_self
  have hp := mul_bdZ hcc hvv
  simp only [List.length_cons] at hB
  rw [valueF, dotZ, wrap_i64 (c * v) (by omega) (by omega), wrap_i64 (n + c * v) (by omega) (by omega)]
  rw [valueF_Z cs vs (n + c * v) (B + 4294967295000000) (by omega) (by omega) (by omega) (fun x hx => hc x (List.mem_cons_of_mem _ hx)) (fun x hx => hv x (List.mem_cons_of_mem _ hx))]
  omega
/-- A term whose numbers are near their ranges. -/
def Near (t : Tm) : Prop := t.coeffs.length ≤ 8 ∧ CsZ t.coeffs ∧ -2000000000000 ≤ t.const ∧ t.const ≤ 2000000000000
theorem Near.val {t : Tm} (h : Near t) {vs : List Int} (hv : ValZ vs) : valueR t vs = valZ t vs := by
 obtain ⟨h1, h2, h3, h4⟩ := h
 exact valueF_Z t.coeffs vs t.const 2000000000000 (by omega) h4 (by omega) h2 hv
theorem Near.less {t : Tm} (h : Near t) {c : Int} (h1 : -3 ≤ c) (h2 : c ≤ 3) (hb : -1100000000000 ≤ t.const ∧ t.const ≤ 1100000000000) : lessT t c = ⟨t.coeffs, t.const - c⟩ ∧ Near (lessT t c) := by
 obtain ⟨g1, g2, g3, g4⟩ := h
 have e : lessT t c = ⟨t.coeffs, t.const - c⟩ := by
  rw [lessT, plusT, plusC_nil]
  simp only
  rw [wrap_i64 (-1 * c) (by omega) (by omega), wrap_i64 _ (by omega) (by omega)]
  congr 1
  omega
 refine ⟨e, ?_⟩
 rw [e]
 exact ⟨g1, g2, by show -2000000000000 ≤ t.const - c; omega, by show t.const - c ≤ 2000000000000; omega⟩
/-! ### Truths -/
end Go.AL

/- Formulas joined, and turned: they are right, and what they mean. -/
set_option linter.unusedVariables false
set_option linter.unusedSimpArgs false
namespace Go.AL
open Go.Proofs
theorem Grow.neN {σ0 σ : Sig} {s n b : Nat} {a : AV} {cs : List AV} (h : Grow σ0 σ s a cs n) (hb : σ b = none) : ∀ s1 o m, a ≠ .own b s1 o m := fun s1 o m e => by
 rcases h with ⟨h, _⟩ | ⟨b', c, h0, h1, h2, h3⟩
 ·rcases h with h | h <;> rw [h] at e <;> cases e
 ·rw [h0] at e
  cases e
  rw [hb] at h2
  cases h2
/-! ### What they mean -/
end Go.AL

/- What FormulaMeans asks of the plain laws: the terms of cases are right, their values are exact. -/
set_option linter.unusedVariables false
set_option linter.unusedSimpArgs false
namespace Go.AL
open Go.Proofs
theorem times_len (t : Tm) (m c : Int) : (timesT t m c).coeffs.length = t.coeffs.length := by simp [timesT]
theorem cas_len {l : List Nd} {vars : Int} (hd : KidsDown l) (hok : ∀ k n, l[k]? = some n → NodeOk n k vars) : ∀ (N i : Nat) (b : Bool) (n : Nd), i < N → l[i]? = some n → ∀ x ∈ casW l ((i : Int), b), ∀ u ∈ x, (u.coeffs.length : Int) = vars
 | 0, _, _, _, h, _ => by omega
 | N + 1, i, b, n, hi, hn => by
  intro x hx u hu
  have hO := hok i n hn
  have hlo := hO.lo
  have hhi := hO.hi
  rw [casW_eq hd hn] at hx
  by_cases h1 : n.kind ≤ 1
  ·have ht := (hO.term h1).2.1
   rw [atom_eq hO (by omega)] at hx
   unfold atomR at hx
   split at hx
   ·rw [List.mem_singleton] at hx
    subst hx
    rw [List.mem_singleton] at hu
    subst hu
    split
    ·rw [times_len]; exact ht
    ·exact ht
   ·split at hx
    ·simp only [List.mem_cons, List.not_mem_nil, or_false] at hx
     rcases hx with rfl | rfl <;> (rw [List.mem_singleton] at hu; subst hu; rw [times_len]; exact ht)
    ·rw [List.mem_singleton] at hx
     subst hx
     simp only [List.mem_cons, List.not_mem_nil, or_false] at hu
     rcases hu with rfl | rfl
     ·exact ht
     ·rw [times_len]; exact ht
  ·have hk : kindW n b = 2 ∨ kindW n b = 3 ∨ kindW n b = 4 := by unfold kindW; split <;> omega
   obtain ⟨C, hC, y, hy, hu⟩ := mem_mk hk hx hu
   obtain ⟨c, hc, rfl⟩ := List.mem_map.1 hC
   have hxr := hd i n hn c hc
   obtain ⟨j, rfl⟩ := Int.eq_ofNat_of_zero_le hxr.1
   obtain ⟨nc, hnc⟩ : ∃ nc, l[j]? = some nc := ⟨l[j]'(by have := lt_of_getElem? hn; omega), List.getElem?_eq_getElem _⟩
   exact cas_len hd hok N j _ nc (by omega) hnc y hy u hu
end Go.AL
