import Derived.Test.YtjimmpldofoimaaGreatDoorWd
import Derived.Test.YtjimmpldofoimaaGreatDoorXd
import Derived.Test.YtjimmpldofoimaaGreatDoorXf
open Go.AL renaming retPost_one → xP, retPost_oneN → xR, ers_at' → xS
set_option linter.unusedVariables false
set_option linter.unusedSimpArgs false
namespace Go.AL
open Go.Proofs
variable {Γ : Glob}
attribute [local irreducible] codeW opsW dopsW
def timesT (t : Tm) (m c : Int) : Tm := ⟨t.coeffs.map fun x => IntKind.i64.wrap (m * x), IntKind.i64.wrap (IntKind.i64.wrap (m * t.const) + c)⟩
set_option maxHeartbeats 1000000 in
theorem f171 (t : Tm) (m c : Int) (hl : Fits t.coeffs.length) : PCalls Tryz.prog Γ 171 [tmA t, int m, int c] (tmA (timesT t m c)) := by
 refine pcalls (ok171 Γ) fun σ => ?_
 simp only [go_sem, xP, xR, xS, Tryz.f171]
 intro b2 hb2
 simp only [go_sem, xP, xR, xS]
 intro bo hbo
 obtain ⟨hne, hbo⟩ := un hbo
 have hne' : ¬ b2 = bo := fun e => hne e.symm
 simp only [go_sem, xP, xR, xS, hne, hne']
 refine SemC.loopK mixed t.coeffs.length (fun k ρ σ' ds => (ds = [] ∧ ρ 3 = .pp (tmC t) 0 ∧ ρ 1 = int m ∧ ρ 2 = int c ∧ ρ 6 = .v (.pointer (some ⟨b2, 0, none⟩)) ∧ ρ 7 = .v (.pointer (some ⟨bo, 0, none⟩)) ∧ ρ 8 = int k ∧ σ' b2 = some (.row [.v (.slice none 0 0), int 0] 2 1)) ∧ Drop σ' σ ∧
  ∃ a, σ' bo = some (.row [a, int 0] 2 1) ∧ Grow σ σ' 1 a (ints ((t.coeffs.take k).map fun x => IntKind.i64.wrap (m * x))) k) (by kernel_rfl) ⟨by simp only [go_sem, xP, xR, xS, hne, hne'], by repeat (first | exact Drop.refl _ | assumption | refine Drop.upd ?_ (by assumption)), _, by simp only [go_sem, xP, xR, xS], .nil _ _ _⟩ ?_
 rintro k ρ σ' ds hk ⟨⟨rfl, h3, h1, h2, h6, h7, h8, hs2⟩, hD, a, hso, hG⟩
 rcases get_or_end t.coeffs k hk with ⟨x, hx, hlt, hd⟩ | hk
 ·simp only [go_sem, xP, xR, xS, h3, h1, h2, h6, h7, h8, hlt, hx, hso]
  refine appB_sl (appT_sl el46 tk3 by3 el46 (by decide) rfl (by decide)) hD hG rfl rfl (by omega) (fun a' σ2 hD2 hO hG2 => ?_)
  have e2 : σ2 b2 = some (.row [.v (.slice none 0 0), int 0] 2 1) := by
   rw [hO b2 (hG.neS hs2 (by decide)) (by simp [hs2]), hs2]
  have eo : σ2 bo = some (.row [a, int 0] 2 1) := by
   rw [hO bo (hG.neS hso (by decide)) (by simp [hso]), hso]
  have hc2 := hG2.cellsX
  have ho2 := hG2.oneX
  simp only [go_sem, xP, xR, xS, h3, h1, h2, h6, h7, h8, e2, eo, hc2, ho2, hne', hlt]
  refine ⟨by rw [wrap_succ _ (by omega)], hD2.upd hbo, a', by simp only [go_sem, xP, xR, xS, upd_same], ?_⟩
  rw [take_succ hx]
  have := hG2.updW (hG2.neS eo (by decide)) (some (.row [a', int 0] 2 1))
  simpa [ints, int] using this
 ·subst hk
  have ho := hG.oneX
  rw [List.take_length] at hG
  simp only [go_sem, xP, xR, xS, h3, h1, h2, h6, h7, h8, Nat.lt_irrefl, hs2, hso, hne, hne', ho]
  have hG' := (hG.updW (hG.neS hso (by decide)) (some (.row [a, int (timesT t m c).const] 2 1)))
  have hG' := hG'.updW (hG.neS hs2 (by decide)) (some (.row [a, int (timesT t m c).const] 2 1))
  have hml : (timesT t m c).coeffs.length = t.coeffs.length := by simp [timesT]
  rw [hml]
  exact ⟨.agg (.cons (hG'.retP ((hD.upd hbo).upd hb2)).1 (.cons (.refl _) .nil)), (hD.upd hbo).upd hb2⟩
end Go.AL

namespace Go.AL
def refOr : List (Option (List (List Tm))) → List (List Tm) → Option (List (List Tm))
 | [], acc => some acc
 | none :: _, _ => none
 | some C :: l, acc => if 64 < (acc ++ C).length then none else refOr l (acc ++ C)
def refAll : List (Option (List (List Tm))) → List (List (List Tm)) → Option (List (List (List Tm)))
 | [], acc => some acc
 | none :: _, _ => none
 | some C :: l, acc => refAll l (acc ++ [C])
def okP (C : List (List Tm)) : Bool := decide (C.length ≤ 64) && decide (maxL C ≤ 32)
def refProd : List (List (List Tm)) → List (List Tm) → Option (List (List Tm))
 | [], A => some A
 | C :: S, A => if okP (prodC A C) then refProd S (prodC A C) else none
def refAnd (S : List (List (List Tm))) : Option (List (List Tm)) := if S.any (fun x => decide (x.length = 0)) then some [] else refProd S [[]]
def atomR (n : Nd) (b : Bool) : List (List Tm) :=
 if n.kind = 0 then [[if b then timesT n.term (-1) (-1) else n.term]]
 else if b then [[timesT n.term 1 (-1)], [timesT n.term (-1) (-1)]] else [[n.term, timesT n.term (-1) 0]]
def mkR (n : Nd) (b : Bool) (sub : List (Option (List (List Tm)))) : Option (List (List Tm)) :=
 if n.kind = 0 ∨ n.kind = 1 then some (atomR n b)
 else if n.kind = 2 then sub.headD none
 else if (decide (n.kind = 4) != b) = true then refOr sub [] else (refAll sub []).bind refAnd
def refF (l : List Nd) : Nat → WayT → Option (List (List Tm))
 | 0, _ => none
 | fuel + 1, w => match l[w.1.toNat]? with
  | none => none
  | some n => mkR n w.2 (n.kids.map fun x => refF l fuel (x, w.2 != decide (n.kind = 2)))
def refW (l : List Nd) (w : WayT) : Option (List (List Tm)) := refF l (w.1.toNat + 1) w
theorem refF_st {l : List Nd} (hd : KidsDown l) : ∀ (fuel fuel' : Nat) (w : WayT), w.1.toNat < fuel → w.1.toNat < fuel' → refF l fuel w = refF l fuel' w
 | 0, _, _, h, _ => by omega
 | _ + 1, 0, _, _, h => by omega
 | fuel + 1, fuel' + 1, w, h, h' => by
  rw [refF, refF]
  cases hn : l[w.1.toNat]? with
  | none => rfl
  | some n =>
   have e : (n.kids.map fun x => refF l fuel (x, w.2 != decide (n.kind = 2))) = n.kids.map fun x => refF l fuel' (x, w.2 != decide (n.kind = 2)) := by
    refine List.map_congr_left fun x hx => ?_
    have := hd _ _ hn x hx
    exact refF_st hd fuel fuel' _ (by simp only; omega) (by simp only; omega)
   simp only [e]
def subR (l : List Nd) (n : Nd) (b : Bool) : List (Option (List (List Tm))) := n.kids.map fun x => refW l (x, b != decide (n.kind = 2))
theorem refW_eq {l : List Nd} (hd : KidsDown l) {i : Nat} {n : Nd} (hn : l[i]? = some n) (b : Bool) : refW l ((i : Int), b) = mkR n b (subR l n b) := by
 have e : (n.kids.map fun x => refF l i (x, b != decide (n.kind = 2))) = subR l n b := by
  refine List.map_congr_left fun x hx => ?_
  have := hd _ _ hn x hx
  exact refF_st hd _ _ _ (by simp only; omega) (by simp only; omega)
 rw [refW]
 simp only [Int.toNat_natCast, refF, hn, e]
theorem refOr_none : ∀ (l : List (Option (List (List Tm)))) (acc : List (List Tm)), none ∈ l → refOr l acc = none
 | [], _, h => by cases h
 | none :: _, _, _ => rfl
 | some C :: l, acc, h => by
  rw [refOr]
  split
  ·rfl
  ·exact refOr_none l _ (by simpa using h)
theorem refAll_none : ∀ (l : List (Option (List (List Tm)))) (acc : List (List (List Tm))), none ∈ l → refAll l acc = none
 | [], _, h => by cases h
 | none :: _, _, _ => rfl
 | some C :: l, acc, h => by rw [refAll]; exact refAll_none l _ (by simpa using h)
theorem refAll_some : ∀ (S acc : List (List (List Tm))), refAll (S.map some) acc = some (acc ++ S)
 | [], acc => by simp [refAll]
 | C :: S, acc => by rw [List.map_cons, refAll, refAll_some S]; simp
theorem refOr_some : ∀ (S : List (List (List Tm))) (acc : List (List Tm)), acc.length ≤ 64 → refOr (S.map some) acc = if (acc ++ S.flatten).length ≤ 64 then some (acc ++ S.flatten) else none
 | [], acc, h => by simp [refOr, h]
 | C :: S, acc, h => by
  rw [List.map_cons, refOr]
  have e : acc ++ (C :: S).flatten = acc ++ C ++ S.flatten := by simp
  rw [e]
  split
  ·rename_i h2
   rw [if_neg]
   rw [List.length_append]
   omega
  ·rename_i h2
   exact refOr_some S _ (by omega)
theorem refProd_some : ∀ (S : List (List (List Tm))) (A : List (List Tm)), (∀ C ∈ S, C ≠ []) → A ≠ [] → okP A = true → refProd S A = if okP (S.foldl prodC A) then some (S.foldl prodC A) else none
 | [], A, _, _, hA => by rw [List.foldl_nil, hA]; rfl
 | C :: S, A, hS, hA, ho => by
  have hp : prodC A C ≠ [] := (prod_up [C] A (fun D hD => hS D (by simp at hD; simp [hD])) hA).2.2
  rw [refProd, List.foldl_cons]
  split
  ·rename_i h
   exact refProd_some S _ (fun D hD => hS D (List.mem_cons_of_mem _ hD)) hp h
  ·rename_i h
   obtain ⟨a1, a2, _⟩ := prod_up S (prodC A C) (fun D hD => hS D (List.mem_cons_of_mem _ hD)) hp
   rw [if_neg]
   intro h2
   refine h ?_
   unfold okP at h2 ⊢
   rw [Bool.and_eq_true, decide_eq_true_eq, decide_eq_true_eq] at h2 ⊢
   omega
theorem ok_nil : okP [[]] = true := rfl
theorem wrap_wrap' (n : Int) : IntKind.i64.wrap (IntKind.i64.wrap n) = IntKind.i64.wrap n := by
 rw [IntKind.wrap_i64, IntKind.wrap_i64]; omega
theorem opp_timesN (t : Tm) (c : Int) : oppT t c = timesT t (-1) c := by
 have h : ∀ l : List Int, plusC (-1) (List.replicate l.length 0) l = l.map fun x => IntKind.i64.wrap (-1 * x) := by
  intro l
  induction l with
  | nil => rfl
  | cons x l ih => rw [List.length_cons, List.replicate_succ, plusC, ih, List.map_cons, Int.zero_add, wrap_wrap']
 rw [oppT, plusT, timesT, h, Int.add_comm]
theorem wrap_zero' : IntKind.i64.wrap (-1 * 0) = 0 := by decide
theorem less_opp (t : Tm) (c : Int) : lessT (oppT t c) 0 = oppT t c := by
 rw [lessT, plusT, plusC_nil]
 simp only [wrap_zero', Int.add_zero]
 rw [oppT, plusT]
 simp only [wrap_wrap']
theorem range_ok {t : Tm} {v : Int} (h : checkTermE t v = 0) : numbersE t = 0 := (firstE_zero _).1 h (numbersE t) (by simp)
theorem num_bd {t : Tm} (h : numbersE t = 0) : (∀ x ∈ t.coeffs, -1000000 ≤ x ∧ x ≤ 1000000) ∧ -1000000000000 ≤ t.const ∧ t.const ≤ 1000000000000 := by
 have hw : ∀ {n lo hi : Int}, withinE n lo hi = 0 → lo ≤ n ∧ n ≤ hi := fun {n lo hi} h => by
  unfold withinE at h
  split at h
  ·cases h
  ·omega
 have h0 := (firstE_zero _).1 h
 have h1 := (firstE_zero _).1 (h0 _ (List.mem_cons_self ..))
 exact ⟨fun x hx => hw (h1 _ (List.mem_map_of_mem hx)), hw (h0 _ (by simp))⟩
theorem less_zero {t : Tm} (h : numbersE t = 0) : lessT t 0 = t := by
 obtain ⟨_, h2, h3⟩ := num_bd h
 rw [lessT, plusT, plusC_nil]
 simp only [wrap_zero', Int.add_zero]
 rw [wrap_i64 _ (by omega) (by omega)]
theorem less_times {t : Tm} (h : numbersE t = 0) : lessT t 1 = timesT t 1 (-1) := by
 obtain ⟨h1, h2, h3⟩ := num_bd h
 have e : t.coeffs.map (fun x => IntKind.i64.wrap (1 * x)) = t.coeffs := by
  have : t.coeffs.map (fun x => IntKind.i64.wrap (1 * x)) = t.coeffs.map id := List.map_congr_left fun x hx => by
   have := h1 x hx
   rw [Int.one_mul, wrap_i64 _ (by omega) (by omega)]; rfl
  rw [this, List.map_id]
 have e1 : IntKind.i64.wrap (-1 * 1) = -1 := by decide
 rw [lessT, plusT, plusC_nil, timesT, e]
 simp only [e1, Int.one_mul]
 rw [wrap_i64 t.const (by omega) (by omega)]
theorem atom_eq {n : Nd} {i : Nat} {vars : Int} (h : NodeOk n i vars) (hk : n.kind = 0 ∨ n.kind = 1) (b : Bool) (S : List (List (List Tm))) : mkC (kindW n b) b n.term S = atomR n b := by
 have hN := range_ok (h.term (by omega)).1
 have hw : kindW n b = n.kind := by unfold kindW; rw [if_neg (by omega)]
 rw [hw, atomR]
 rcases hk with hk | hk
 ·rw [if_pos hk, mkC, if_pos hk]
  cases b
  ·simp only [Bool.false_eq_true, if_false]; rw [less_zero hN]
  ·simp only [if_true]; rw [less_opp, opp_timesN]
 ·rw [if_neg (by omega), mkC, if_neg (by omega), if_pos hk]
  cases b
  ·simp only [Bool.false_eq_true, if_false]; rw [less_zero hN, opp_timesN]
  ·simp only [if_true]; rw [less_times hN, opp_timesN]
theorem bad_any {l : List Nd} {n : Nd} {b : Bool} (h : ¬ ∀ x ∈ n.kids, badW l (x, b != decide (n.kind = 2)) = false) : ∃ x ∈ n.kids, badW l (x, b != decide (n.kind = 2)) = true := by
 obtain ⟨x, hx⟩ := Classical.not_forall.1 h
 obtain ⟨hx, hb⟩ := Classical.not_imp.1 hx
 exact ⟨x, hx, by simpa using hb⟩
theorem mkR_none {n : Nd} {i : Nat} {vars : Int} (h : NodeOk n i vars) (b : Bool) {sub : List (Option (List (List Tm)))} (hl : sub.length = n.kids.length) (hm : none ∈ sub) : mkR n b sub = none := by
 have hk : ¬ (n.kind = 0 ∨ n.kind = 1) := fun hk => by
  have := (h.term (by omega)).2.2
  rw [this] at hl
  have : sub = [] := List.eq_nil_of_length_eq_zero hl
  rw [this] at hm
  cases hm
 rw [mkR, if_neg hk]
 split
 ·rename_i h2
  have := (h.form (by omega)).2.2.1 h2
  obtain ⟨x, hx⟩ := List.length_eq_one_iff.1 (hl.trans this)
  rw [hx] at hm ⊢
  simp at hm
  rw [← hm]
  rfl
 ·split
  ·exact refOr_none _ _ hm
  ·rw [refAll_none _ _ hm]; rfl
theorem mkR_some {n : Nd} {i : Nat} {vars : Int} (h : NodeOk n i vars) (b : Bool) {S : List (List (List Tm))} (hl : S.length = n.kids.length) (hS : ∀ C ∈ S, C.length ≤ 64 ∧ maxL C ≤ 32) : mkR n b (S.map some) = if okP (mkC (kindW n b) b n.term S) then some (mkC (kindW n b) b n.term S) else none := by
 have hlo := h.lo
 have hhi := h.hi
 rw [mkR]
 by_cases hk : n.kind = 0 ∨ n.kind = 1
 ·have ho : okP (atomR n b) = true := by
   unfold atomR
   rcases hk with hk | hk
   ·rw [if_pos hk]; rfl
   ·rw [if_neg (by omega)]; cases b <;> rfl
  rw [if_pos hk, atom_eq h hk, ho]; rfl
 ·rw [if_neg hk]
  by_cases h2 : n.kind = 2
  ·obtain ⟨C, hC⟩ := List.length_eq_one_iff.1 (hl.trans ((h.form (by omega)).2.2.1 h2))
   subst hC
   have hw : kindW n b = 2 := by unfold kindW; rw [if_neg (by omega)]; exact h2
   have e : mkC 2 b n.term [C] = C := rfl
   have ho : okP C = true := by
    have := hS C (by simp)
    unfold okP
    rw [Bool.and_eq_true, decide_eq_true_eq, decide_eq_true_eq]
    exact this
   rw [if_pos h2, hw, e, ho]; rfl
  ·rw [if_neg h2]
   by_cases h4 : (decide (n.kind = 4) != b) = true
   ·have hw : kindW n b = 4 := by
     unfold kindW
     cases b
     ·rw [if_neg (by simp)]; simpa using h4
     ·simp at h4
      rw [if_pos ⟨rfl, by omega⟩]; omega
    have e : mkC 4 b n.term S = S.flatten := rfl
    have hm : maxL S.flatten ≤ 32 := by
     clear hl hw e
     induction S with
     | nil => exact Nat.zero_le _
     | cons C S ih =>
      rw [List.flatten_cons, maxL_app]
      have := ih fun D hD => hS D (List.mem_cons_of_mem _ hD)
      have := (hS C (by simp)).2
      omega
    rw [if_pos h4, refOr_some S [] (by simp), List.nil_append, hw, e, okP]
    simp only [hm, decide_true, Bool.and_true, decide_eq_true_eq]
   ·have hw : kindW n b = 3 := by
     unfold kindW
     cases b
     ·rw [if_neg (by simp)]; simp at h4; omega
     ·simp at h4
      rw [if_pos ⟨rfl, by omega⟩]; omega
    have e : mkC 3 b n.term S = if S.any (fun x => decide (x.length = 0)) then [] else S.foldl prodC [[]] := rfl
    rw [if_neg h4, refAll_some, hw, e, List.nil_append]
    show refAnd S = _
    rw [refAnd]
    split
    ·rfl
    ·rename_i ha
     exact refProd_some S [[]] (fun C hC e => ha (List.any_eq_true.2 ⟨C, hC, by simp [e]⟩)) (by simp) ok_nil
theorem ok_size (C : List (List Tm)) : okP C = !badC (sizeC C) := by
 cases h : badC (sizeC C)
 ·have := size_bad.1 h
  unfold okP
  simp [this]
 ·have : ¬ (C.length ≤ 64 ∧ maxL C ≤ 32) := fun h2 => by rw [size_bad.2 h2] at h; cases h
  unfold okP
  simp only [Bool.not_true, Bool.and_eq_false_iff, decide_eq_false_iff_not]
  omega
theorem ref_cas {l : List Nd} {vars : Int} (hd : KidsDown l) (hok : ∀ k n, l[k]? = some n → NodeOk n k vars) : ∀ (N i : Nat) (b : Bool) (n : Nd), i < N → l[i]? = some n →
  refW l ((i : Int), b) = if badW l ((i : Int), b) = true then none else some (casW l ((i : Int), b))
 | 0, _, _, _, h, _ => by omega
 | N + 1, i, b, n, hi, hn => by
  have hkid : ∀ x ∈ n.kids, refW l (x, b != decide (n.kind = 2)) = if badW l (x, b != decide (n.kind = 2)) = true then none else some (casW l (x, b != decide (n.kind = 2))) := fun x hx => by
   have hxr := hd i n hn x hx
   obtain ⟨j, rfl⟩ := Int.eq_ofNat_of_zero_le hxr.1
   obtain ⟨nc, hnc⟩ : ∃ nc, l[j]? = some nc := ⟨l[j]'(by have := lt_of_getElem? hn; omega), List.getElem?_eq_getElem _⟩
   exact ref_cas hd hok N j _ nc (by omega) hnc
  rw [refW_eq hd hn]
  by_cases hk : ∀ x ∈ n.kids, badW l (x, b != decide (n.kind = 2)) = false
  ·have e : subR l n b = (subW l n b).map some := by
    rw [subR, subW, List.map_map]
    refine List.map_congr_left fun x hx => ?_
    rw [hkid x hx, hk x hx]; rfl
   have hb : badW l ((i : Int), b) = badC (sizeC (casW l ((i : Int), b))) := by
    rw [badW_eq hd hn, (cnt_cas hd hok (N + 1) i b n hi hn).1 hk]
    have : (n.kids.any fun x => badW l (x, b != decide (n.kind = 2))) = false := List.any_eq_false.2 fun x hx => by rw [hk x hx]; simp
    rw [this, Bool.or_false]
   have hS : ∀ C ∈ subW l n b, C.length ≤ 64 ∧ maxL C ≤ 32 := fun C hC => by
    obtain ⟨x, hx, rfl⟩ := List.mem_map.1 hC
    have hxr := hd i n hn x hx
    obtain ⟨j, rfl⟩ := Int.eq_ofNat_of_zero_le hxr.1
    obtain ⟨nc, hnc⟩ : ∃ nc, l[j]? = some nc := ⟨l[j]'(by have := lt_of_getElem? hn; omega), List.getElem?_eq_getElem _⟩
    have := (cnt_cas hd hok (j + 1) j _ nc (by omega) hnc).2 (hk _ hx)
    exact ⟨this.1, this.2.1⟩
   rw [e, mkR_some (hok i n hn) b (by simp [subW]) hS, ← casW_eq hd hn, hb, ok_size]
   cases badC (sizeC (casW l ((i : Int), b))) <;> rfl
  ·obtain ⟨x, hx, hbx⟩ := bad_any hk
   have hb : badW l ((i : Int), b) = true := by
    rw [badW_eq hd hn, Bool.or_eq_true]
    exact .inr (List.any_eq_true.2 ⟨x, hx, hbx⟩)
   have hm : none ∈ subR l n b := List.mem_map.2 ⟨x, hx, by rw [hkid x hx, if_pos hbx]⟩
   rw [mkR_none (hok i n hn) b (by simp [subR]) hm, if_pos hb]
def markK (kind : Int) (p t : Bool) : List Int → List Bool × List Bool → List Bool × List Bool
 | [], M => M
 | k :: l, (P, T) =>
  if kind = 2 then
   let T1 := T.set k.toNat ((T[k.toNat]?).getD false || p)
   markK kind p t l (P.set k.toNat ((P[k.toNat]?).getD false || t), T1)
  else markK kind p t l (P.set k.toNat ((P[k.toNat]?).getD false || p), T.set k.toNat ((T[k.toNat]?).getD false || t))
def badA (n : Nd) : Bool := decide (n.kind ≤ 1) && (!inRangeB (timesT n.term (-1) (-1)) || (decide (n.kind = 1) && !inRangeB (timesT n.term 1 (-1))))
def usedF (l : List Nd) : Nat → List Bool × List Bool → Bool
 | 0, _ => true
 | i + 1, M => match l[i]? with
  | none => true
  | some n =>
   if (M.2[i]?).getD false && badA n then false else usedF l i (markK n.kind ((M.1[i]?).getD false) ((M.2[i]?).getD false) n.kids M)
def usedB (l : List Nd) : Bool := usedF l l.length ((List.replicate l.length false).set (l.length - 1) true, List.replicate l.length false)
def hit (l : List Nd) (M : List Bool × List Bool) (j : Nat) : Prop := ((M.1[j]?).getD false = true ∧ larW l ((j : Int), false) = true) ∨ ((M.2[j]?).getD false = true ∧ larW l ((j : Int), true) = true)
theorem set_get {L : List Bool} {k j : Nat} {v : Bool} (hk : k < L.length) : ((L.set k v)[j]?).getD false = if k = j then v else (L[j]?).getD false := by
 rw [List.getElem?_set]
 split
 ·rename_i h
  subst h
  simp [hk]
 ·rfl
theorem mark_spec (kind : Int) (p t : Bool) : ∀ (ks : List Int) (P T : List Bool), (∀ k ∈ ks, 0 ≤ k ∧ k.toNat < P.length ∧ k.toNat < T.length) →
  let M := markK kind p t ks (P, T)
  M.1.length = P.length ∧ M.2.length = T.length ∧ ∀ j : Nat,
   (((M.1[j]?).getD false = true ↔ (P[j]?).getD false = true ∨ ((j : Int) ∈ ks ∧ (if kind = 2 then t else p) = true)) ∧
   ((M.2[j]?).getD false = true ↔ (T[j]?).getD false = true ∨ ((j : Int) ∈ ks ∧ (if kind = 2 then p else t) = true)))
 | [], P, T, _ => ⟨rfl, rfl, fun j => by simp [markK]⟩
 | k :: ks, P, T, h => by
  have hk := h k (by simp)
  obtain ⟨m, rfl⟩ := Int.eq_ofNat_of_zero_le hk.1
  simp only [Int.toNat_natCast] at hk
  by_cases h2 : kind = 2
  ·obtain ⟨a1, a2, a3⟩ := mark_spec kind p t ks (P.set m ((P[m]?).getD false || t)) (T.set m ((T[m]?).getD false || p)) (fun x hx => by
    have := h x (List.mem_cons_of_mem _ hx)
    simpa using this)
   simp only [markK, h2, if_true, Int.toNat_natCast] at a1 a2 a3 ⊢
   refine ⟨by simpa using a1, by simpa using a2, fun j => ?_⟩
   obtain ⟨b1, b2⟩ := a3 j
   rw [b1, b2, set_get hk.2.1, set_get hk.2.2]
   by_cases hj : m = j
   ·subst hj; simp; exact ⟨fun _ h => .inr h, fun _ h => .inr h⟩
   ·have : ¬ (j : Int) = (m : Int) := by omega
    simp [hj, this]
  ·obtain ⟨a1, a2, a3⟩ := mark_spec kind p t ks (P.set m ((P[m]?).getD false || p)) (T.set m ((T[m]?).getD false || t)) (fun x hx => by
    have := h x (List.mem_cons_of_mem _ hx)
    simpa using this)
   simp only [markK, h2, if_false, Int.toNat_natCast] at a1 a2 a3 ⊢
   refine ⟨by simpa using a1, by simpa using a2, fun j => ?_⟩
   obtain ⟨b1, b2⟩ := a3 j
   rw [b1, b2, set_get hk.2.1, set_get hk.2.2]
   by_cases hj : m = j
   ·subst hj; simp; exact ⟨fun _ h => .inr h, fun _ h => .inr h⟩
   ·have : ¬ (j : Int) = (m : Int) := by omega
    simp [hj, this]
theorem larT_eq (t : Tm) : larT t = !inRangeB t := by
 unfold larT largeE
 rw [numbers_eq]
 cases inRangeB t <;> simp [whenE]
theorem in_range {t : Tm} (h : numbersE t = 0) : inRangeB t = true := by
 rw [numbers_eq] at h
 cases hb : inRangeB t
 ·rw [hb] at h; simp [whenE] at h
 ·rfl
theorem range_neg {t : Tm} (h : numbersE t = 0) : inRangeB (timesT t (-1) 0) = true := by
 obtain ⟨h1, h2, h3⟩ := num_bd h
 have e : ∀ {n lo hi : Int}, lo ≤ n → n ≤ hi → withinE n lo hi = 0 := fun {n lo hi} a b => by unfold withinE; rw [if_neg (by omega)]
 rw [inRangeB_eq, Bool.and_eq_true, List.all_eq_true, decide_eq_true_eq]
 constructor
 ·intro x hx
  simp only [timesT] at hx
  obtain ⟨y, hy, rfl⟩ := List.mem_map.1 hx
  have := h1 y hy
  rw [decide_eq_true_eq, wrap_i64 _ (by omega) (by omega)]
  exact e (by omega) (by omega)
 ·simp only [timesT, Int.add_zero]
  rw [wrap_wrap', wrap_i64 _ (by omega) (by omega)]
  exact e (by omega) (by omega)
theorem mem_fold {u : Tm} : ∀ (S : List (List (List Tm))) (A : List (List Tm)) (x : List Tm), x ∈ S.foldl prodC A → u ∈ x → (∃ y ∈ A, u ∈ y) ∨ ∃ C ∈ S, ∃ y ∈ C, u ∈ y
 | [], A, x, hx, hu => .inl ⟨x, hx, hu⟩
 | C :: S, A, x, hx, hu => by
  rcases mem_fold S (prodC A C) x hx hu with ⟨y, hy, hu⟩ | ⟨D, hD, y, hy, hu⟩
  ·rw [prodC] at hy
   obtain ⟨a, ha, hy⟩ := List.mem_flatMap.1 hy
   obtain ⟨c, hc, rfl⟩ := List.mem_map.1 hy
   rcases List.mem_append.1 hu with hu | hu
   ·exact .inl ⟨a, ha, hu⟩
   ·exact .inr ⟨C, by simp, c, hc, hu⟩
  ·exact .inr ⟨D, List.mem_cons_of_mem _ hD, y, hy, hu⟩
theorem mem_mk {k : Int} {b : Bool} {t u : Tm} {S : List (List (List Tm))} (hk : k = 2 ∨ k = 3 ∨ k = 4) {x : List Tm} (hx : x ∈ mkC k b t S) (hu : u ∈ x) : ∃ C ∈ S, ∃ y ∈ C, u ∈ y := by
 rcases hk with rfl | rfl | rfl
 ·have e : mkC 2 b t S = S.getLastD [] := rfl
  rw [e] at hx
  cases S with
  | nil => simp at hx
  | cons C S =>
   rw [List.getLastD_cons] at hx
   refine ⟨_, ?_, x, hx, hu⟩
   have := List.getLast_mem (l := C :: S) (by simp)
   rwa [List.getLast_eq_getLastD] at this
 ·have e : mkC 3 b t S = if S.any (fun x => decide (x.length = 0)) then [] else S.foldl prodC [[]] := rfl
  rw [e] at hx
  split at hx
  ·cases hx
  ·rcases mem_fold S [[]] x hx hu with ⟨y, hy, hu⟩ | h
   ·simp at hy; subst hy; cases hu
   ·exact h
 ·have e : mkC 4 b t S = S.flatten := rfl
  rw [e] at hx
  obtain ⟨C, hC, hx⟩ := List.mem_flatten.1 hx
  exact ⟨C, hC, x, hx, hu⟩
theorem larC_iff {C : List (List Tm)} : larC C = true ↔ ∃ x ∈ C, ∃ u ∈ x, larT u = true := by
 unfold larC
 rw [List.any_eq_true]
 constructor
 ·rintro ⟨u, hu, h⟩
  obtain ⟨x, hx, hu⟩ := List.mem_flatten.1 hu
  exact ⟨x, hx, u, hu, h⟩
 ·rintro ⟨x, hx, u, hu, h⟩
  exact ⟨u, List.mem_flatten.2 ⟨x, hx, hu⟩, h⟩
theorem lar_kids {l : List Nd} {vars : Int} (hd : KidsDown l) (hok : ∀ k n, l[k]? = some n → NodeOk n k vars) {i : Nat} {n : Nd} (hn : l[i]? = some n) (h2 : 2 ≤ n.kind) (b : Bool) : larW l ((i : Int), b) = true ↔ ∃ x ∈ n.kids, larW l (x, b != decide (n.kind = 2)) = true := by
 rw [larW_eq hd hn, Bool.or_eq_true, List.any_eq_true]
 constructor
 ·rintro (h | h)
  ·obtain ⟨x, hx, u, hu, hl⟩ := larC_iff.1 h
   rw [casW_eq hd hn] at hx
   have hk : kindW n b = 2 ∨ kindW n b = 3 ∨ kindW n b = 4 := by
    have := (hok i n hn).hi
    unfold kindW
    split <;> omega
   obtain ⟨C, hC, y, hy, hu⟩ := mem_mk hk hx hu
   obtain ⟨c, hc, rfl⟩ := List.mem_map.1 hC
   have hxr := hd i n hn c hc
   obtain ⟨j, rfl⟩ := Int.eq_ofNat_of_zero_le hxr.1
   obtain ⟨nc, hnc⟩ : ∃ nc, l[j]? = some nc := ⟨l[j]'(by have := lt_of_getElem? hn; omega), List.getElem?_eq_getElem _⟩
   refine ⟨_, hc, ?_⟩
   rw [larW_eq hd hnc, Bool.or_eq_true]
   exact .inl (larC_iff.2 ⟨y, hy, u, hu, hl⟩)
  ·exact h
 ·exact .inr
theorem lar_atom {l : List Nd} {vars : Int} (hd : KidsDown l) (hok : ∀ k n, l[k]? = some n → NodeOk n k vars) {i : Nat} {n : Nd} (hn : l[i]? = some n) (h1 : n.kind ≤ 1) (b : Bool) : larW l ((i : Int), b) = (b && badA n) := by
 have hok := hok i n hn
 have hlo := hok.lo
 obtain ⟨ht, _, hk⟩ := hok.term h1
 have hN := range_ok ht
 have hr : inRangeB n.term = true := in_range hN
 have hr2 := range_neg hN
 rw [larW_eq hd hn, hk, List.any_nil, Bool.or_false, casW_eq hd hn, atom_eq hok (by omega), badA]
 have e1 : decide (n.kind ≤ 1) = true := decide_eq_true h1
 rw [e1, Bool.true_and]
 unfold atomR
 rcases (show n.kind = 0 ∨ n.kind = 1 by omega) with h | h
 ·have : ¬ n.kind = 1 := by omega
  cases b <;> simp [h, larC, larT_eq, hr]
 ·have : ¬ n.kind = 0 := by omega
  cases b
  ·simp [h, larC, larT_eq, hr, hr2]
  ·simp [h, larC, larT_eq, Bool.or_comm]
theorem used_iff {l : List Nd} {vars : Int} (hd : KidsDown l) (hok : ∀ k n, l[k]? = some n → NodeOk n k vars) : ∀ (i : Nat) (P T : List Bool), i ≤ l.length → P.length = l.length → T.length = l.length → (usedF l i (P, T) = false ↔ ∃ j, j < i ∧ hit l (P, T) j)
 | 0, P, T, _, _, _ => by simp [usedF]
 | i + 1, P, T, hi, hP, hT => by
  obtain ⟨n, hn⟩ : ∃ n, l[i]? = some n := ⟨l[i]'(by omega), List.getElem?_eq_getElem _⟩
  have hlo := (hok i n hn).lo
  have step : ∀ {Q : Nat → Prop}, (∃ j, j < i + 1 ∧ Q j) ↔ Q i ∨ ∃ j, j < i ∧ Q j := fun {Q} => by
   constructor
   ·rintro ⟨j, hj, h⟩
    by_cases e : j = i
    ·subst e; exact .inl h
    ·exact .inr ⟨j, by omega, h⟩
   ·rintro (h | ⟨j, hj, h⟩)
    ·exact ⟨i, by omega, h⟩
    ·exact ⟨j, by omega, h⟩
  rw [step, usedF, hn]
  simp only
  by_cases h1 : n.kind ≤ 1
  ·have hk := ((hok i n hn).term h1).2.2
   have hh : hit l (P, T) i ↔ ((T[i]?).getD false && badA n) = true := by
    unfold hit
    rw [lar_atom hd hok hn h1, lar_atom hd hok hn h1]
    simp
   rw [hk, markK, hh]
   cases hb : ((T[i]?).getD false && badA n)
   ·simp only [Bool.false_eq_true, if_false, false_or]
    exact used_iff hd hok i P T (by omega) hP hT
   ·simp
  ·have hb : badA n = false := by unfold badA; simp [h1]
   rw [hb, Bool.and_false]
   simp only [Bool.false_eq_true, if_false]
   have hks : ∀ k ∈ n.kids, 0 ≤ k ∧ k.toNat < P.length ∧ k.toNat < T.length := fun k hk => by
    have := hd i n hn k hk
    omega
   obtain ⟨m1, m2, m3⟩ := mark_spec n.kind ((P[i]?).getD false) ((T[i]?).getD false) n.kids P T hks
   have hM := used_iff hd hok i (markK n.kind ((P[i]?).getD false) ((T[i]?).getD false) n.kids (P, T)).1 (markK n.kind ((P[i]?).getD false) ((T[i]?).getD false) n.kids (P, T)).2 (by omega) (by rw [m1]; exact hP) (by rw [m2]; exact hT)
   rw [show ((markK n.kind ((P[i]?).getD false) ((T[i]?).getD false) n.kids (P, T)).1, (markK n.kind ((P[i]?).getD false) ((T[i]?).getD false) n.kids (P, T)).2) = markK n.kind ((P[i]?).getD false) ((T[i]?).getD false) n.kids (P, T) from rfl] at hM
   rw [hM]
   have h2 : 2 ≤ n.kind := by omega
   have lf := lar_kids hd hok hn h2 false
   have lt := lar_kids hd hok hn h2 true
   constructor
   ·rintro ⟨j, hj, h⟩
    unfold hit at h
    rw [(m3 j).1, (m3 j).2] at h
    rcases h with ⟨h | ⟨hm, h⟩, hl⟩ | ⟨h | ⟨hm, h⟩, hl⟩
    ·exact .inr ⟨j, hj, .inl ⟨h, hl⟩⟩
    ·refine .inl ?_
     by_cases hk : n.kind = 2
     ·rw [if_pos hk] at h
      exact .inr ⟨h, lt.2 ⟨_, hm, by simpa [hk] using hl⟩⟩
     ·rw [if_neg hk] at h
      exact .inl ⟨h, lf.2 ⟨_, hm, by simpa [hk] using hl⟩⟩
    ·exact .inr ⟨j, hj, .inr ⟨h, hl⟩⟩
    ·refine .inl ?_
     by_cases hk : n.kind = 2
     ·rw [if_pos hk] at h
      exact .inl ⟨h, lf.2 ⟨_, hm, by simpa [hk] using hl⟩⟩
     ·rw [if_neg hk] at h
      exact .inr ⟨h, lt.2 ⟨_, hm, by simpa [hk] using hl⟩⟩
   ·rintro (h | ⟨j, hj, h⟩)
    ·rcases h with ⟨h, hl⟩ | ⟨h, hl⟩
     ·obtain ⟨x, hx, hl⟩ := lf.1 hl
      have hxr := hd i n hn x hx
      obtain ⟨j, rfl⟩ := Int.eq_ofNat_of_zero_le hxr.1
      refine ⟨j, by omega, ?_⟩
      by_cases hk : n.kind = 2
      ·exact .inr ⟨(m3 j).2.2 (.inr ⟨hx, by rw [if_pos hk]; exact h⟩), by simpa [hk] using hl⟩
      ·exact .inl ⟨(m3 j).1.2 (.inr ⟨hx, by rw [if_neg hk]; exact h⟩), by simpa [hk] using hl⟩
     ·obtain ⟨x, hx, hl⟩ := lt.1 hl
      have hxr := hd i n hn x hx
      obtain ⟨j, rfl⟩ := Int.eq_ofNat_of_zero_le hxr.1
      refine ⟨j, by omega, ?_⟩
      by_cases hk : n.kind = 2
      ·exact .inl ⟨(m3 j).1.2 (.inr ⟨hx, by rw [if_pos hk]; exact h⟩), by simpa [hk] using hl⟩
      ·exact .inr ⟨(m3 j).2.2 (.inr ⟨hx, by rw [if_neg hk]; exact h⟩), by simpa [hk] using hl⟩
    ·refine ⟨j, hj, ?_⟩
     rcases h with ⟨h, hl⟩ | ⟨h, hl⟩
     ·exact .inl ⟨(m3 j).1.2 (.inl h), hl⟩
     ·exact .inr ⟨(m3 j).2.2 (.inl h), hl⟩
theorem used_eq {l : List Nd} {vars : Int} (hd : KidsDown l) (hok : ∀ k n, l[k]? = some n → NodeOk n k vars) (hne : l ≠ []) : usedB l = !larW l ((l.length : Int) - 1, false) := by
 have hpos := List.length_pos_iff.2 hne
 have e : ((l.length : Int) - 1) = ((l.length - 1 : Nat) : Int) := by omega
 have h := used_iff hd hok l.length ((List.replicate l.length false).set (l.length - 1) true) (List.replicate l.length false) (Nat.le_refl _) (by simp) (by simp)
 have hr : ∀ j, ((List.replicate l.length false)[j]?).getD false = false := fun j => by
  rw [List.getElem?_replicate]; split <;> rfl
 have h2 : (∃ j, j < l.length ∧ hit l ((List.replicate l.length false).set (l.length - 1) true, List.replicate l.length false) j) ↔ larW l ((l.length : Int) - 1, false) = true := by
  rw [e]
  constructor
  ·rintro ⟨j, hj, ⟨h, hl⟩ | ⟨h, hl⟩⟩
   ·simp only at h
    rw [set_get (by simp; omega), hr] at h
    split at h
    ·rename_i hjj; rw [hjj]; exact hl
    ·cases h
   ·simp only at h
    rw [hr] at h; cases h
  ·intro hl
   refine ⟨l.length - 1, by omega, .inl ⟨?_, hl⟩⟩
   simp only
   rw [set_get (by simp; omega), if_pos rfl]
 rw [h2] at h
 unfold usedB
 cases hu : usedF l l.length ((List.replicate l.length false).set (l.length - 1) true, List.replicate l.length false)
 ·rw [h.1 hu]; rfl
 ·cases hw : larW l ((l.length : Int) - 1, false)
  ·rfl
  ·rw [h.2 hw] at hu; cases hu
def dotZ : List Int → List Int → Int
 | c :: cs, v :: vs => c * v + dotZ cs vs
 | _, _ => 0
def valZ (t : Tm) (vs : List Int) : Int := t.const + dotZ t.coeffs vs
def ValZ (vs : List Int) : Prop := ∀ v ∈ vs, -4294967295 ≤ v ∧ v ≤ 4294967295
def CsZ (cs : List Int) : Prop := ∀ c ∈ cs, -1000000 ≤ c ∧ c ≤ 1000000
theorem mul_bdZ {c h : Int} (hc : -1000000 ≤ c ∧ c ≤ 1000000) (hh : -4294967295 ≤ h ∧ h ≤ 4294967295) : -4294967295000000 ≤ c * h ∧ c * h ≤ 4294967295000000 := by
 have h1 : (c * h).natAbs ≤ 1000000 * 4294967295 := by
  rw [Int.natAbs_mul]
  exact Nat.mul_le_mul (by omega) (by omega)
 omega
theorem valueF_Z : ∀ (cs vs : List Int) (n B : Int), -B ≤ n → n ≤ B → B + cs.length * 4294967295000000 ≤ 9000000000000000000 → CsZ cs → ValZ vs → valueF cs vs n = n + dotZ cs vs
 | [], _, n, _, _, _, _, _, _ => by simp [valueF, dotZ]
 | _ :: _, [], n, _, _, _, _, _, _ => by simp [valueF, dotZ]
 | c :: cs, v :: vs, n, B, h1, h2, hB, hc, hv => by
  have hcc := hc c List.mem_cons_self
  have hvv := hv v List.mem_cons_self
  have hp := mul_bdZ hcc hvv
  simp only [List.length_cons] at hB
  rw [valueF, dotZ, wrap_i64 (c * v) (by omega) (by omega), wrap_i64 (n + c * v) (by omega) (by omega)]
  rw [valueF_Z cs vs (n + c * v) (B + 4294967295000000) (by omega) (by omega) (by omega) (fun x hx => hc x (List.mem_cons_of_mem _ hx)) (fun x hx => hv x (List.mem_cons_of_mem _ hx))]
  omega
def Near (t : Tm) : Prop := t.coeffs.length ≤ 8 ∧ CsZ t.coeffs ∧ -2000000000000 ≤ t.const ∧ t.const ≤ 2000000000000
theorem Near.val {t : Tm} (h : Near t) {vs : List Int} (hv : ValZ vs) : valueR t vs = valZ t vs := by
 obtain ⟨h1, h2, h3, h4⟩ := h
 exact valueF_Z t.coeffs vs t.const 2000000000000 (by omega) h4 (by omega) h2 hv
theorem Near.opp {t : Tm} (h : Near t) {c : Int} (h1 : -3 ≤ c) (h2 : c ≤ 3) (hb : -1000000000000 ≤ t.const ∧ t.const ≤ 1000000000000) : oppT t c = ⟨t.coeffs.map fun x => -x, c - t.const⟩ ∧ Near (oppT t c) := by
 obtain ⟨g1, g2, g3, g4⟩ := h
 have e : oppT t c = ⟨t.coeffs.map fun x => -x, c - t.const⟩ := by
  rw [opp_timesN, timesT]
  have e1 : t.coeffs.map (fun x => IntKind.i64.wrap (-1 * x)) = t.coeffs.map fun x => -x := List.map_congr_left fun x hx => by
   have := g2 x hx
   rw [wrap_i64 _ (by omega) (by omega)]; omega
  rw [e1, wrap_i64 (-1 * t.const) (by omega) (by omega), wrap_i64 _ (by omega) (by omega)]
  congr 1
  omega
 refine ⟨e, ?_⟩
 rw [e]
 refine ⟨by simpa using g1, fun x hx => ?_, by show -2000000000000 ≤ c - t.const; omega, by show c - t.const ≤ 2000000000000; omega⟩
 simp only at hx
 obtain ⟨y, hy, rfl⟩ := List.mem_map.1 hx
 have := g2 y hy
 omega
theorem dot_neg : ∀ (cs vs : List Int), dotZ (cs.map fun x => -x) vs = -dotZ cs vs
 | [], _ => rfl
 | _ :: _, [] => rfl
 | c :: cs, v :: vs => by
  rw [List.map_cons, dotZ, dotZ, dot_neg cs vs, Int.neg_mul]
  omega
theorem Near.less {t : Tm} (h : Near t) {c : Int} (h1 : -3 ≤ c) (h2 : c ≤ 3) (hb : -1100000000000 ≤ t.const ∧ t.const ≤ 1100000000000) : lessT t c = ⟨t.coeffs, t.const - c⟩ ∧ Near (lessT t c) := by
 obtain ⟨g1, g2, g3, g4⟩ := h
 have e : lessT t c = ⟨t.coeffs, t.const - c⟩ := by
  rw [lessT, plusT, plusC_nil]
  simp only
  rw [wrap_i64 (-1 * c) (by omega) (by omega), wrap_i64 _ (by omega) (by omega)]
  congr 1
  omega
 refine ⟨e, ?_⟩
 rw [e]
 exact ⟨g1, g2, by show -2000000000000 ≤ t.const - c; omega, by show t.const - c ≤ 2000000000000; omega⟩
theorem near_of {t : Tm} (hl : t.coeffs.length ≤ 8) (h : numbersE t = 0) : Near t := by
 obtain ⟨h1, h2, h3⟩ := num_bd h
 exact ⟨hl, h1, by omega, by omega⟩
theorem value_opp {t : Tm} (hl : t.coeffs.length ≤ 8) (h : numbersE t = 0) {c : Int} (h1 : -3 ≤ c) (h2 : c ≤ 3) {vs : List Int} (hv : ValZ vs) : valueR (oppT t c) vs = c - valZ t vs := by
 obtain ⟨e, hn⟩ := (near_of hl h).opp h1 h2 (num_bd h).2
 rw [hn.val hv, e, valZ, valZ, dot_neg]
 simp only
 omega
theorem value_less {t : Tm} (hl : t.coeffs.length ≤ 8) (h : numbersE t = 0) {c : Int} (h1 : -3 ≤ c) (h2 : c ≤ 3) {vs : List Int} (hv : ValZ vs) : valueR (lessT t c) vs = valZ t vs - c := by
 have := (num_bd h).2
 obtain ⟨e, hn⟩ := (near_of hl h).less h1 h2 (by omega)
 rw [hn.val hv, e, valZ, valZ]
 simp only
 omega
theorem truth_app (vs : List Int) : ∀ (a b : List Nd) (acc : List Bool), truthF vs (a ++ b) acc = truthF vs b (truthF vs a acc)
 | [], _, _ => rfl
 | n :: a, b, acc => by rw [List.cons_append, truthF, truthF, truth_app vs a]
theorem truth_pre (vs : List Int) : ∀ (l : List Nd) (acc : List Bool), acc <+: truthF vs l acc
 | [], acc => List.prefix_refl _
 | n :: l, acc => by
  rw [truthF]
  exact List.IsPrefix.trans (List.prefix_append _ _) (truth_pre vs l _)
theorem kids_pre {acc acc' : List Bool} (h : acc <+: acc') {kids : List Int} (hk : ∀ k ∈ kids, 0 ≤ k ∧ k < (acc.length : Int)) : kidsB acc kids = kidsB acc' kids := by
 unfold kidsB
 refine List.map_congr_left fun k hx => ?_
 have := hk k hx
 obtain ⟨t, rfl⟩ := h
 rw [List.getElem?_append_left (by omega)]
theorem node_pre {vs : List Int} {acc acc' : List Bool} (h : acc <+: acc') {n : Nd} {i : Nat} {vars : Int} (hok : NodeOk n i vars) (hi : i ≤ acc.length) : nodeB vs acc n = nodeB vs acc' n := by
 by_cases h1 : n.kind ≤ 1
 ·have := hok.lo
  unfold nodeB
  by_cases h0 : n.kind = 0
  ·rw [if_pos h0, if_pos h0]
  ·rw [if_neg h0, if_neg h0, if_pos (by omega), if_pos (by omega)]
 ·have hk := (hok.form (by omega)).2.2.2
  unfold nodeB
  rw [kids_pre h fun k hx => by have := hk k hx; omega]
def trues (vs : List Int) (l : List Nd) : List Bool := truthF vs l []
theorem true_get {vs : List Int} {l : List Nd} {vars : Int} (hok : ∀ k n, l[k]? = some n → NodeOk n k vars) {i : Nat} {n : Nd} (hn : l[i]? = some n) : (trues vs l)[i]? = some (nodeB vs (trues vs l) n) := by
 have hi := lt_of_getElem? hn
 have e : l = l.take i ++ n :: l.drop (i + 1) := by
  rw [← drop_of_get hn, List.take_append_drop]
 have hlen : (truthF vs (l.take i) []).length = i := by rw [truthF_len]; simp; omega
 have e2 : trues vs l = truthF vs (l.drop (i + 1)) (truthF vs (l.take i) [] ++ [nodeB vs (truthF vs (l.take i) []) n]) := by
  rw [trues]
  conv => lhs; rw [e]
  rw [truth_app, truthF]
 have hp := truth_pre vs (l.drop (i + 1)) (truthF vs (l.take i) [] ++ [nodeB vs (truthF vs (l.take i) []) n])
 rw [← e2] at hp
 have hp2 : truthF vs (l.take i) [] <+: trues vs l := List.IsPrefix.trans (List.prefix_append _ _) hp
 rw [← node_pre hp2 (hok i n hn) (by omega)]
 obtain ⟨t, ht⟩ := hp
 rw [← ht, List.getElem?_append_left (by simp [hlen]), List.getElem?_append_right (by omega), hlen]
 simp
theorem any_congrZ {α : Type} {l : List α} {f g : α → Bool} (h : ∀ x ∈ l, f x = g x) : l.any f = l.any g := by
 induction l with
 | nil => rfl
 | cons x l ih => rw [List.any_cons, List.any_cons, h x (by simp), ih fun y hy => h y (List.mem_cons_of_mem _ hy)]
theorem all_congrZ {α : Type} {l : List α} {f g : α → Bool} (h : ∀ x ∈ l, f x = g x) : l.all f = l.all g := by
 induction l with
 | nil => rfl
 | cons x l ih => rw [List.all_cons, List.all_cons, h x (by simp), ih fun y hy => h y (List.mem_cons_of_mem _ hy)]
def allP (vs : List Int) (c : List Tm) : Bool := c.all fun t => decide (0 ≤ valueR t vs)
def anyP (vs : List Int) (C : List (List Tm)) : Bool := C.any (allP vs)
theorem any_prod (vs : List Int) (A B : List (List Tm)) : anyP vs (prodC A B) = (anyP vs A && anyP vs B) := by
 unfold anyP prodC
 rw [List.any_flatMap]
 induction A with
 | nil => simp
 | cons x A ih =>
  rw [List.any_cons, List.any_cons, ih, List.any_map]
  have : (allP vs ∘ fun y => x ++ y) = fun y => (allP vs x && allP vs y) := by
   funext y
   simp [allP, List.all_append]
  rw [this]
  cases h : allP vs x
  ·simp
  ·simp only [Bool.true_and, Bool.true_or]
   cases h2 : B.any (allP vs)
   ·simp
   ·simp
theorem any_fold (vs : List Int) : ∀ (S : List (List (List Tm))) (A : List (List Tm)), anyP vs (S.foldl prodC A) = (anyP vs A && S.all (anyP vs))
 | [], A => by simp
 | C :: S, A => by rw [List.foldl_cons, any_fold vs S, any_prod, List.all_cons, Bool.and_assoc]
theorem any_flat (vs : List Int) : ∀ (S : List (List (List Tm))), anyP vs S.flatten = S.any (anyP vs)
 | [] => rfl
 | C :: S => by
  have := any_flat vs S
  unfold anyP at this ⊢
  rw [List.flatten_cons, List.any_append, List.any_cons, this]
def tr (vs : List Int) (l : List Nd) (x : Int) : Bool := ((trues vs l)[x.toNat]?).getD false
theorem cas_means {vs : List Int} (hv : ValZ vs) {l : List Nd} {vars : Int} (h8 : vars ≤ 8) (hd : KidsDown l) (hok : ∀ k n, l[k]? = some n → NodeOk n k vars) : ∀ (N i : Nat) (b : Bool) (n : Nd), i < N → l[i]? = some n →
  anyP vs (casW l ((i : Int), b)) = (tr vs l i != b)
 | 0, _, _, _, h, _ => by omega
 | N + 1, i, b, n, hi, hn => by
  have hkid : ∀ c, ∀ x ∈ n.kids, anyP vs (casW l (x, c)) = (tr vs l x != c) := fun c x hx => by
   have hxr := hd i n hn x hx
   obtain ⟨j, rfl⟩ := Int.eq_ofNat_of_zero_le hxr.1
   obtain ⟨nc, hnc⟩ : ∃ nc, l[j]? = some nc := ⟨l[j]'(by have := lt_of_getElem? hn; omega), List.getElem?_eq_getElem _⟩
   exact cas_means hv h8 hd hok N j c nc (by omega) hnc
  have hO := hok i n hn
  have hlo := hO.lo
  have hhi := hO.hi
  have ht : tr vs l i = nodeB vs (trues vs l) n := by
   unfold tr
   rw [Int.toNat_natCast, true_get hok hn]
   rfl
  rw [casW_eq hd hn, ht]
  by_cases h1 : n.kind ≤ 1
  ·obtain ⟨hc, hlen, hk⟩ := hO.term h1
   have hN := range_ok hc
   have hl : n.term.coeffs.length ≤ 8 := by omega
   have hw : kindW n b = n.kind := by unfold kindW; rw [if_neg (by omega)]
   have hval : valueR n.term vs = valZ n.term vs := (near_of hl hN).val hv
   have v0 := value_less hl hN (c := 0) (by omega) (by omega) hv
   have v1 := value_less hl hN (c := 1) (by omega) (by omega) hv
   have o0 := value_opp hl hN (c := 0) (by omega) (by omega) hv
   have o1 := value_opp hl hN (c := -1) (by omega) (by omega) hv
   have lo := less_opp n.term (-1)
   rw [hw]
   unfold nodeB
   rcases (show n.kind = 0 ∨ n.kind = 1 by omega) with h | h
   ·rw [if_pos h, mkC, if_pos h]
    cases b
    ·simp only [Bool.false_eq_true, if_false, anyP, allP, List.any_cons, List.any_nil, List.all_cons, List.all_nil, Bool.and_true, Bool.or_false, v0, hval, Int.sub_zero, Bool.bne_false]
    ·simp only [if_true, anyP, allP, List.any_cons, List.any_nil, List.all_cons, List.all_nil, Bool.and_true, Bool.or_false, lo, o1, hval, Bool.bne_true]
     rw [← decide_not]
     exact decide_eq_decide.2 (by omega)
   ·rw [if_neg (by omega), if_pos h, mkC, if_neg (by omega), if_pos h]
    cases b
    ·simp only [Bool.false_eq_true, if_false, anyP, allP, List.any_cons, List.any_nil, List.all_cons, List.all_nil, Bool.and_true, Bool.or_false, v0, o0, hval, Bool.bne_false]
     rw [← Bool.decide_and]
     exact decide_eq_decide.2 (by omega)
    ·simp only [if_true, anyP, allP, List.any_cons, List.any_nil, List.all_cons, List.all_nil, Bool.and_true, Bool.or_false, v1, o1, hval, Bool.bne_true]
     rw [← Bool.decide_or, ← decide_not]
     exact decide_eq_decide.2 (by omega)
  ·have hk0 : ¬ n.kind = 0 := by omega
   have hk1 : ¬ n.kind = 1 := by omega
   have hkb : kidsB (trues vs l) n.kids = n.kids.map (tr vs l) := rfl
   unfold nodeB
   rw [if_neg hk0, if_neg hk1, hkb]
   by_cases h2 : n.kind = 2
   ·obtain ⟨x, hx⟩ := List.length_eq_one_iff.1 ((hO.form (by omega)).2.2.1 h2)
    have hw : kindW n b = 2 := by unfold kindW; rw [if_neg (by omega)]; exact h2
    have e : mkC 2 b n.term (subW l n b) = casW l (x, b != decide (n.kind = 2)) := by rw [subW, hx]; rfl
    rw [if_pos h2, hw, e, hkid _ x (by simp [hx]), hx, h2]
    simp only [List.map_cons, List.headD_cons, decide_true]
    cases tr vs l x <;> cases b <;> rfl
   ·have hsub : ∀ c : Bool, subW l n b = n.kids.map fun x => casW l (x, b) := fun _ => by
     unfold subW
     refine List.map_congr_left fun x _ => ?_
     rw [decide_eq_false h2, Bool.bne_false]
    rw [if_neg h2]
    have hany : (subW l n b).any (anyP vs) = n.kids.any fun x => tr vs l x != b := by
     rw [hsub true, List.any_map]
     refine any_congrZ ?_
     intro x hx
     exact hkid b x hx
    have hall : (subW l n b).all (anyP vs) = n.kids.all fun x => tr vs l x != b := by
     rw [hsub true, List.all_map]
     refine all_congrZ ?_
     intro x hx
     exact hkid b x hx
    have m3 : anyP vs (mkC 3 b n.term (subW l n b)) = (subW l n b).all (anyP vs) := by
     have e : mkC 3 b n.term (subW l n b) = if (subW l n b).any (fun x => decide (x.length = 0)) then [] else (subW l n b).foldl prodC [[]] := rfl
     rw [e]
     split
     ·rename_i h
      obtain ⟨C, hC, h0⟩ := List.any_eq_true.1 h
      have : C = [] := List.eq_nil_of_length_eq_zero (by simpa using h0)
      subst this
      have : (subW l n b).all (anyP vs) = false := List.all_eq_false.2 ⟨[], hC, by simp [anyP]⟩
      rw [this]; rfl
     ·rw [any_fold]; rfl
    have m4 : anyP vs (mkC 4 b n.term (subW l n b)) = (subW l n b).any (anyP vs) := any_flat vs _
    have any_t : ∀ L : List Bool, (L.any fun b => true == b) = L.any id := fun L => by congr 1; funext b; cases b <;> rfl
    have any_f : ∀ L : List Bool, (L.any fun b => false == b) = !L.all id := fun L => by
     induction L with
     | nil => rfl
     | cons a L ih => rw [List.any_cons, List.all_cons, ih]; cases a <;> simp
    by_cases h3 : n.kind = 3
    ·rw [if_pos h3, any_f, Bool.not_not, List.all_map]
     cases b
     ·have hw : kindW n false = 3 := by unfold kindW; rw [if_neg (by simp)]; exact h3
      rw [hw, m3, hall]
      simp only [Bool.bne_false]
      rfl
     ·have hw : kindW n true = 4 := by unfold kindW; rw [if_pos ⟨rfl, .inl h3⟩]; omega
      rw [hw, m4, hany]
      simp only [Bool.bne_true]
      rw [List.not_all_eq_any_not]
      rfl
    ·rw [if_neg h3, any_t, List.any_map]
     have h4 : n.kind = 4 := by omega
     cases b
     ·have hw : kindW n false = 4 := by unfold kindW; rw [if_neg (by simp)]; exact h4
      rw [hw, m4, hany]
      simp only [Bool.bne_false]
      rfl
     ·have hw : kindW n true = 3 := by unfold kindW; rw [if_pos ⟨rfl, .inr h4⟩]; omega
      rw [hw, m3, hall]
      simp only [Bool.bne_true]
      rw [List.not_any_eq_all_not]
      rfl
open Go.Proofs
variable {Γ : Glob}
attribute [local irreducible] codeW opsW dopsW
theorem Grow.own_of {σ0 σ : Sig} {s n : Nat} {a : AV} {cs : List AV} (h : Grow σ0 σ s a cs n) (hne : cs ≠ []) : ∃ b c, a = .own b s 0 n ∧ σ b = some (.row cs s c) := by
 rcases h with ⟨_, h, _⟩ | ⟨b, c, h, _, h2, _⟩
 ·exact absurd h hne
 ·exact ⟨b, c, h, h2⟩
theorem kids_nat {kids : List Int} {i : Nat} (h : ∀ k ∈ kids, 0 ≤ k ∧ k < (i : Int)) {j : Nat} {x : Int} (hx : kids[j]? = some x) : ∃ m : Nat, x = m ∧ m < i := by
 have := h x (mem_of_get hx)
 exact ⟨x.toNat, by omega, by omega⟩
end Go.AL

namespace Go.AL
open Go.Proofs
theorem Grow.neN {σ0 σ : Sig} {s n b : Nat} {a : AV} {cs : List AV} (h : Grow σ0 σ s a cs n) (hb : σ b = none) : ∀ s1 o m, a ≠ .own b s1 o m := fun s1 o m e => by
 rcases h with ⟨h, _⟩ | ⟨b', c, h0, h1, h2, h3⟩
 ·rcases h with h | h <;> rw [h] at e <;> cases e
 ·rw [h0] at e
  cases e
  rw [hb] at h2
  cases h2
theorem holds_last {f : Fm} {vs : List Int} (hne : f.nodes ≠ []) : holdsB f vs = ((truthF vs f.nodes [])[f.nodes.length - 1]?).getD false := by
 have hl : (truthF vs f.nodes []).length = f.nodes.length := by rw [truthF_len]; simp
 rw [holdsB, List.getLastD_eq_getLast?, List.getLast?_eq_getElem?, hl]
theorem times_len (t : Tm) (m c : Int) : (timesT t m c).coeffs.length = t.coeffs.length := by simp [timesT]
theorem cas_len {l : List Nd} {vars : Int} (hd : KidsDown l) (hok : ∀ k n, l[k]? = some n → NodeOk n k vars) : ∀ (N i : Nat) (b : Bool) (n : Nd), i < N → l[i]? = some n → ∀ x ∈ casW l ((i : Int), b), ∀ u ∈ x, (u.coeffs.length : Int) = vars
 | 0, _, _, _, h, _ => by omega
 | N + 1, i, b, n, hi, hn => by
  intro x hx u hu
  have hO := hok i n hn
  have hlo := hO.lo
  have hhi := hO.hi
  rw [casW_eq hd hn] at hx
  by_cases h1 : n.kind ≤ 1
  ·have ht := (hO.term h1).2.1
   rw [atom_eq hO (by omega)] at hx
   unfold atomR at hx
   split at hx
   ·rw [List.mem_singleton] at hx
    subst hx
    rw [List.mem_singleton] at hu
    subst hu
    split
    ·rw [times_len]; exact ht
    ·exact ht
   ·split at hx
    ·simp only [List.mem_cons, List.not_mem_nil, or_false] at hx
     rcases hx with rfl | rfl <;> (rw [List.mem_singleton] at hu; subst hu; rw [times_len]; exact ht)
    ·rw [List.mem_singleton] at hx
     subst hx
     simp only [List.mem_cons, List.not_mem_nil, or_false] at hu
     rcases hu with rfl | rfl
     ·exact ht
     ·rw [times_len]; exact ht
  ·have hk : kindW n b = 2 ∨ kindW n b = 3 ∨ kindW n b = 4 := by unfold kindW; split <;> omega
   obtain ⟨C, hC, y, hy, hu⟩ := mem_mk hk hx hu
   obtain ⟨c, hc, rfl⟩ := List.mem_map.1 hC
   have hxr := hd i n hn c hc
   obtain ⟨j, rfl⟩ := Int.eq_ofNat_of_zero_le hxr.1
   obtain ⟨nc, hnc⟩ : ∃ nc, l[j]? = some nc := ⟨l[j]'(by have := lt_of_getElem? hn; omega), List.getElem?_eq_getElem _⟩
   exact cas_len hd hok N j _ nc (by omega) hnc y hy u hu
theorem check_own {t : Tm} (h8 : t.coeffs.length ≤ 8) (h : inRangeB t = true) : checkTermE t t.coeffs.length = 0 := by
 refine (firstE_zero _).2 fun x hx => ?_
 simp only [List.mem_cons, List.not_mem_nil, or_false] at hx
 rcases hx with rfl | rfl | rfl
 ·rw [withinE, if_neg (by omega)]
 ·simp [whenE]
 ·rw [numbers_eq, h]; rfl
theorem values_okM {vs : List Int} {n : Int} (h : valuesE vs n = 0) : (vs.length : Int) = n ∧ ValZ vs := by
 have h0 := (firstE_zero _).1 h
 have h1 := (whenE_zero (by decide)).1 (h0 (whenE (!decide ((vs.length : Int) = n)) 2) (by simp))
 have h2 := (firstE_zero _).1 (h0 (firstE (vs.map fun x => withinE x (-4294967295) 4294967295)) (by simp))
 refine ⟨by simpa using h1, fun v hv => ?_⟩
 have := h2 _ (List.mem_map_of_mem hv)
 unfold withinE at this
 split at this
 ·cases this
 ·omega
theorem value_own {t : Tm} {vs : List Int} {n : Int} (h8 : t.coeffs.length ≤ 8) (hl : (t.coeffs.length : Int) = n) (h : inRangeB t = true) (hv : valuesE vs n = 0) : valueE t vs = 0 := by
 rw [valueE, firstE_cons, if_pos (check_own h8 h), firstE_cons, firstE_nil, hl, hv]; rfl
theorem cases_mean {f : Fm} {vs : List Int} (h : checkE f = 0) (hv : valuesE vs f.vars = 0) (hc : (casesR f).2 = 0) :
  anyP vs (casesR f).1 = holdsB f vs ∧ ∀ x ∈ (casesR f).1, ∀ t ∈ x, t.coeffs.length ≤ 8 ∧ valueE t vs = 0 := by
 obtain ⟨hne, hl200, hv0, hv8, hok⟩ := check_ok h
 obtain ⟨_, hvz⟩ := values_okM hv
 have hd := hdown hok
 have hpos := List.length_pos_iff.2 hne
 have hroot : rootW f = (((f.nodes.length - 1 : Nat) : Int), false) := by rw [rootW]; congr 1; omega
 have hn : f.nodes[f.nodes.length - 1]? = some f.nodes[f.nodes.length - 1] := List.getElem?_eq_getElem (by omega)
 have hm := cas_means hvz hv8 hd hok f.nodes.length (f.nodes.length - 1) false _ (by omega) hn
 have hlen := cas_len hd hok f.nodes.length (f.nodes.length - 1) false _ (by omega) hn
 rw [casesR, if_pos h] at hc ⊢
 cases hb : badW f.nodes (rootW f)
 ·rw [hb] at hc
  cases hl : larW f.nodes (rootW f)
  ·simp only [Bool.false_eq_true, if_false]
   rw [hroot] at hl ⊢
   refine ⟨?_, fun x hx t ht => ?_⟩
   ·rw [hm, holds_last hne, tr, trues, Int.toNat_natCast, Bool.bne_false]
   ·have h1 := hlen x hx t ht
    have h8 : t.coeffs.length ≤ 8 := by omega
    rw [larW_eq hd hn, Bool.or_eq_false_iff] at hl
    have hr : larT t = false := by
     cases hr : larT t
     ·rfl
     ·have := larC_iff.2 ⟨x, hx, t, ht, hr⟩
      rw [this] at hl
      exact absurd hl.1 (by simp)
    rw [larT_eq] at hr
    exact ⟨h8, value_own h8 h1 (by simpa using hr) hv⟩
  ·rw [hl] at hc
   simp at hc
 ·rw [hb] at hc
  simp at hc
variable {Γ : Glob}
attribute [local irreducible] codeW opsW dopsW
def mn3 (x : Int) : Int := if x < 3000 then x else 3000
def stepZ (acc : List Int) : List Int → Int → Int
 | [], s => s
 | k :: ks, s => stepZ acc ks (mn3 (IntKind.i64.wrap (s + (acc[k.toNat]?).getD 0)))
def sizF : List Nd → List Int → List Int
 | [], acc => acc
 | n :: l, acc => sizF l (acc ++ [stepZ acc n.kids 1])
def smallB (f : Fm) : Bool := decide ((sizF f.nodes []).getLastD 0 ≤ 2000)
set_option maxHeartbeats 1000000 in
theorem f48 (f : Fm) (hl : f.nodes.length ≤ 1000000) (hne : f.nodes ≠ []) (hN : ∀ i n, f.nodes[i]? = some n → NodeOk n i f.vars) : PCalls Tryz.prog Γ 48 [fmA f] (.v (.bool (smallB f))) := by
 refine pcalls (ok48 Γ) fun σ => ?_
 simp only [go_sem, xP, xR, xS, Tryz.f48]
 refine SemC.loopK mixed f.nodes.length (fun k ρ σ' ds => (ds = [] ∧ ρ 1 = .pp (fmC f) 0 ∧ ρ 4 = int k) ∧ Drop σ' σ ∧ ∃ acc : List Int, acc.length = k ∧ sizF f.nodes [] = sizF (f.nodes.drop k) acc ∧ Grow σ σ' 1 (ρ 3) (ints acc) k) (by kernel_rfl) ⟨by simp only [go_sem, xP, xR, xS], Drop.refl _, [], rfl, rfl, .nil _ _ _⟩ ?_
 rintro k ρ σ' ds hk ⟨⟨rfl, h1, h4⟩, hD, acc, hal, hz, hG⟩
 rcases get_or_end f.nodes k hk with ⟨x, hx, hlt, hd⟩ | hk
 ·have hok := hN k x hx
  have hkd : ∀ c ∈ x.kids, 0 ≤ c ∧ c < (k : Int) := fun c hc => by
   by_cases h : x.kind ≤ 1
   ·rw [(hok.term h).2.2] at hc; cases hc
   ·exact (hok.form (by omega)).2.2.2 c hc
  have hkl : x.kids.length ≤ 200 := by
   by_cases h : x.kind ≤ 1
   ·rw [(hok.term h).2.2]; exact Nat.zero_le _
   ·exact (hok.form (by omega)).2.1
  have g3 : (f.nodes.flatMap ndC)[k * 4 + 3]? = some (slI x.kids) := nd_get hx 3 (by decide)
  obtain ⟨a, ha⟩ : ∃ a, ρ 3 = a := ⟨_, rfl⟩
  rw [ha] at hG
  simp only [go_sem, xP, xR, xS, h1, h4, hlt]
  refine SemC.loopK mixed x.kids.length (fun j ρ' σ'' ds => ds = [] ∧ σ'' = σ' ∧ (ρ' 1 = .pp (fmC f) 0 ∧ ρ' 3 = a ∧ ρ' 4 = int k) ∧ ρ' 6 = int j ∧ ∃ s, ρ' 5 = int s ∧ stepZ acc x.kids 1 = stepZ acc (x.kids.drop j) s) (by kernel_rfl) ⟨rfl, rfl, by simp only [go_sem, xP, xR, xS, h1, ha, h4], rfl, 1, rfl, rfl⟩ ?_
  rintro j ρ' σ'' ds hj ⟨rfl, rfl, H, h6, s, h5, hs⟩
  rcases get_or_end x.kids j hj with ⟨c0, hc0, hlt2, hdd⟩ | hj
  ·obtain ⟨m, rfl, hm⟩ := kids_nat hkd hc0
   have hne : ints acc ≠ [] := fun e => by have := congrArg List.length e; rw [ints_len, List.length_nil] at this; omega
   obtain ⟨ba, ca, ea, hba⟩ := hG.own_of hne
   subst ea
   obtain ⟨v, hv⟩ : ∃ v, acc[m]? = some v := ⟨acc[m]'(by omega), List.getElem?_eq_getElem _⟩
   rw [hdd, stepZ, Int.toNat_natCast, hv, Option.getD_some] at hs
   simp only [go_sem, xP, xR, xS, H, h6, h5, hlt, g3, hlt2, hc0, hm, hba, hv]
   refine ⟨by rw [wrap_succ _ (by omega)], _, rfl, ?_⟩
   rw [hs]
   rfl
  ·subst hj
   rw [List.drop_length, stepZ] at hs
   simp only [go_sem, xP, xR, xS, H, h6, h5, hlt, g3, Nat.lt_irrefl]
   refine appB_sl (appT_sl el46 tk3 by3 el46 (by decide) rfl (by decide)) hD hG rfl rfl (by omega) (fun a' σ2 hD2 hO hG2 => ?_)
   simp only [go_sem, xP, xR, xS, H]
   refine ⟨by rw [wrap_succ _ (by omega)], hD2, acc ++ [s], by simp [hal], ?_, ?_⟩
   ·rw [hz, hd, sizF, hs]
   ·simpa [ints, int] using hG2
 ·subst hk
  have hpos := List.length_pos_iff.2 hne
  rw [List.drop_length, sizF] at hz
  have hne' : ints acc ≠ [] := fun e => by have := congrArg List.length e; rw [ints_len, List.length_nil] at this; omega
  obtain ⟨ba, ca, ea, hba⟩ := hG.own_of hne'
  obtain ⟨n, hn⟩ : ∃ n, f.nodes.length = n + 1 := ⟨f.nodes.length - 1, by omega⟩
  have hw : IntKind.i64.wrap (((n + 1 : Nat) : Int) - 1) = (n : Int) := by rw [wrap_i64 _ (by omega) (by omega)]; omega
  obtain ⟨v, hv⟩ : ∃ v, acc[n]? = some v := ⟨acc[n]'(by omega), List.getElem?_eq_getElem _⟩
  have hb : smallB f = decide (v ≤ 2000) := by
   rw [smallB, hz, List.getLastD_eq_getLast?, List.getLast?_eq_getElem?, hal, hn]
   simp [hv]
  have hlt : n < n + 1 := by omega
  rw [hn] at ea
  simp only [go_sem, xP, xR, xS, h1, h4, ea, hba, hn, hw, hlt, hv, Nat.lt_irrefl]
  exact retP_drop hD (by rw [hb])
theorem bools_zeros (n : Nat) : (List.replicate n [AV.v (.bool false)]).flatten = (List.replicate n false).map bv := by
 induction n with
 | zero => rfl
 | succ n ih => rw [List.replicate_succ, List.flatten_cons, ih, List.replicate_succ, List.map_cons]; rfl
theorem bools_put {L : List Bool} {k : Nat} {v : Bool} (h : k < L.length) : putL (L.map bv) k [AV.v (.bool v)] = (L.set k v).map bv := by
 have : L.set k v = L.take k ++ v :: L.drop (k + 1) := List.set_eq_take_append_cons_drop.trans (if_pos h)
 rw [this, putL]
 simp [bv, List.map_take, List.map_drop]
theorem set_other {L : List Bool} {k m : Nat} {v x : Bool} (h : L[m]? = some x) (hk : k ≠ m) : (L.set k v)[m]? = some x := by
 rw [List.getElem?_set_ne hk]; exact h
set_option maxHeartbeats 4000000 in
set_option maxRecDepth 20000 in
theorem f153 (f : Fm) (hl : f.nodes.length ≤ 1000) (hc : ∀ n ∈ f.nodes, NdFit n) (hne : f.nodes ≠ []) (hN : ∀ i n, f.nodes[i]? = some n → NodeOk n i f.vars) : PCalls Tryz.prog Γ 153 [fmA f] (.v (.bool (usedB f.nodes))) := by
 have hpos := List.length_pos_iff.2 hne
 have hA8 : (f.nodes.length : Int) ≤ 140737488355328 := by omega
 have hA9 : (f.nodes.length : Int) ≤ 9223372036854775807 := by omega
 have hw1 : IntKind.i64.wrap ((f.nodes.length : Int) - 1) = ((f.nodes.length - 1 : Nat) : Int) := by rw [wrap_i64 _ (by omega) (by omega)]; omega
 refine pcalls (ok153 Γ) fun σ => ?_
 simp only [go_sem, xP, xR, xS, Tryz.f153, hA8, hA9, bools_zeros, Int.one_mul]
 intro bP hbP
 simp only [go_sem, xP, xR, xS, hA8, hA9, bools_zeros, Int.one_mul]
 intro bT hbT
 obtain ⟨nPT', hbT⟩ := un hbT
 have nPT : ¬ bP = bT := fun e => nPT' e.symm
 have hz0 : (List.replicate f.nodes.length false)[f.nodes.length - 1]? = some false := by rw [List.getElem?_replicate, if_pos (by omega)]
 have hput0 := bools_put (L := List.replicate f.nodes.length false) (k := f.nodes.length - 1) (v := true) (by simp; omega)
 have hlr : ((List.replicate f.nodes.length false).map bv).length = f.nodes.length := by simp
 have hl1 : f.nodes.length - 1 < f.nodes.length := by omega
 have hl2 : f.nodes.length - 1 + 1 ≤ f.nodes.length := by omega
 simp only [go_sem, xP, xR, xS, hA8, hA9, bools_zeros, nPT, nPT', hw1, ↓hput0, hlr, hl1, hl2, Int.toNat_natCast]
 refine SemC.loopK mixed f.nodes.length (fun k ρ σ' ds => ds = [] ∧ (ρ 1 = .pp (fmC f) 0 ∧ ρ 3 = .own bP 1 0 f.nodes.length ∧ ρ 4 = .own bT 1 0 f.nodes.length) ∧ ρ 5 = int ((f.nodes.length : Int) - 1 - k) ∧ Drop σ' σ ∧ ∃ P T : List Bool, (P.length = f.nodes.length ∧ T.length = f.nodes.length ∧ usedB f.nodes = usedF f.nodes (f.nodes.length - k) (P, T)) ∧ σ' bP = some (.row (P.map bv) 1 f.nodes.length) ∧ σ' bT = some (.row (T.map bv) 1 f.nodes.length)) (by kernel_rfl) ?_ ?_
 ·refine ⟨rfl, by simp only [go_sem, xP, xR, xS, Int.toNat_natCast], ?_, ?_, (List.replicate f.nodes.length false).set (f.nodes.length - 1) true, List.replicate f.nodes.length false, ⟨by simp, by simp, rfl⟩, ?_, ?_⟩
  ·simp only [go_sem, xP, xR, xS, hlr, hw1, Int.toNat_natCast]
   try (congr 2; omega)
  ·repeat (first | exact Drop.refl _ | assumption | refine Drop.upd ?_ (by assumption))
  ·simp only [go_sem, xP, xR, xS, nPT, nPT']
  ·simp only [go_sem, xP, xR, xS, nPT, nPT', Int.toNat_natCast, bools_zeros]
 rintro k ρ σ' ds hk ⟨rfl, H0, h5, hD, P0, T0, ⟨lP0, lT0, hU⟩, hP0, hT0⟩
 rcases Nat.lt_or_ge k f.nodes.length with hkl | hkl
 ·obtain ⟨m, hm⟩ : ∃ m, f.nodes.length = m + 1 + k := ⟨f.nodes.length - 1 - k, by omega⟩
  have e5 : (f.nodes.length : Int) - 1 - k = (m : Int) := by omega
  rw [e5] at h5
  have hmg : (0 : Int) ≤ (m : Int) := by omega
  have hml : m < f.nodes.length := by omega
  obtain ⟨n, hn⟩ : ∃ n, f.nodes[m]? = some n := ⟨f.nodes[m]'hml, List.getElem?_eq_getElem _⟩
  have hok := hN m n hn
  have hnf := hc n (mem_of_get hn)
  have hkd : ∀ c ∈ n.kids, 0 ≤ c ∧ c < (m : Int) := fun c hc => by
   by_cases h : n.kind ≤ 1
   ·rw [(hok.term h).2.2] at hc; cases hc
   ·exact (hok.form (by omega)).2.2.2 c hc
  obtain ⟨p, hpm0⟩ : ∃ p, P0[m]? = some p := ⟨P0[m]'(by omega), List.getElem?_eq_getElem _⟩
  obtain ⟨t, htm0⟩ : ∃ t, T0[m]? = some t := ⟨T0[m]'(by omega), List.getElem?_eq_getElem _⟩
  rw [show f.nodes.length - k = m + 1 by omega, usedF, hn] at hU
  simp only [hpm0, htm0, Option.getD_some] at hU
  simp only [go_sem, xP, xR, xS, H0, h5, hmg, hml, ↓nd_part hn]
  intro b6 hb6
  have n6P := nn hb6 hP0
  have n6T := nn hb6 hT0
  have n6P' : ¬ b6 = bP := fun e => n6P e.symm
  have n6T' : ¬ b6 = bT := fun e => n6T e.symm
  have z6 := hD.free hb6
  simp only [go_sem, xP, xR, xS, H0, h5, hmg, hml, ↓nd_part hn, n6P, n6T, n6P', n6T', hP0, hT0]
  refine SemC.loopK mixed n.kids.length (fun j ρ σ2 ds => ds = [] ∧ (ρ 1 = .pp (fmC f) 0 ∧ ρ 3 = .own bP 1 0 f.nodes.length ∧ ρ 4 = .own bT 1 0 f.nodes.length ∧ ρ 5 = int m ∧ ρ 6 = .v (.pointer (some ⟨b6, 0, none⟩))) ∧ ρ 7 = int j ∧ Drop σ2 σ ∧ σ2 b6 = some (.row (ndC n) 4 1) ∧ ∃ P T : List Bool, (P.length = f.nodes.length ∧ T.length = f.nodes.length ∧ P[m]? = some p ∧ T[m]? = some t ∧ markK n.kind p t n.kids (P0, T0) = markK n.kind p t (n.kids.drop j) (P, T)) ∧ σ2 bP = some (.row (P.map bv) 1 f.nodes.length) ∧ σ2 bT = some (.row (T.map bv) 1 f.nodes.length)) (by kernel_rfl) ?_ ?_
  ·refine ⟨rfl, by simp only [go_sem, xP, xR, xS, H0, h5], rfl, by repeat (first | exact hD | refine Drop.upd ?_ z6), by simp only [go_sem, xP, xR, xS, ndC], P0, T0, ⟨lP0, lT0, hpm0, htm0, rfl⟩, by simp only [go_sem, xP, xR, xS, n6P, hP0], by simp only [go_sem, xP, xR, xS, n6T, hT0]⟩
  rintro j ρ σ2 ds hj ⟨rfl, H, h7, hD2, h6, P, T, ⟨lP1, lT1, hpm, htm, hM⟩, hP, hT⟩
  simp only [ndC] at h6
  have z_P : σ bP = none := hbP
  have z_T : σ bT = none := hbT
  rcases get_or_end n.kids j hj with ⟨c0, hc0, hlt2, hdd⟩ | hj
  ·obtain ⟨m', rfl, hm'⟩ := kids_nat hkd hc0
   have hwj : IntKind.i64.wrap ((j : Int) + 1) = ((j + 1 : Nat) : Int) := wrap_succ _ (by have := hnf.2; omega)
   rw [hdd] at hM
   obtain ⟨pc, hpc⟩ : ∃ pc, P[m']? = some pc := ⟨P[m']'(by omega), List.getElem?_eq_getElem _⟩
   obtain ⟨tc, htc⟩ : ∃ tc, T[m']? = some tc := ⟨T[m']'(by omega), List.getElem?_eq_getElem _⟩
   have gpc := bv_get hpc
   have gtc := bv_get htc
   have gpm := bv_get hpm
   have gtm := bv_get htm
   have hPl : m' < P.length := by omega
   have hTl : m' < T.length := by omega
   have putP := fun v => bools_put (L := P) (k := m') (v := v) hPl
   have putT := fun v => bools_put (L := T) (k := m') (v := v) hTl
   have lP : (P.map bv).length = f.nodes.length := by rw [List.length_map]; omega
   have lT : (T.map bv).length = f.nodes.length := by rw [List.length_map]; omega
   have gpm2 : ∀ v, ((P.set m' v).map bv)[m]? = some (.v (.bool p)) := fun v => bv_get (set_other hpm (by omega))
   have gtm2 : ∀ v, ((T.set m' v).map bv)[m]? = some (.v (.bool t)) := fun v => bv_get (set_other htm (by omega))
   have lP2 : ∀ v, ((P.set m' v).map bv).length = f.nodes.length := fun v => by rw [List.length_map, List.length_set]; omega
   have lT2 : ∀ v, ((T.set m' v).map bv).length = f.nodes.length := fun v => by rw [List.length_map, List.length_set]; omega
   have hcl : m' < f.nodes.length := by omega
   have hcl1 : m' + 1 ≤ f.nodes.length := by omega
   have hml : m < f.nodes.length := by omega
   by_cases h2 : n.kind = 2
   ·have hK := eq_true h2
    rw [markK, if_pos h2] at hM
    simp only [Int.toNat_natCast, hpc, htc, Option.getD_some] at hM
    cases tc
    ·cases pc
     ·simp only [go_sem, xP, xR, xS, H, h7, hP, hT, h6, hlt2, hc0, hK, nPT, nPT', n6P, n6T, n6P', n6T', gpc, gtc, gpm, gtm, lP, lT, hcl, hcl1, hml, ↓putP, ↓putT, gpm2, gtm2, lP2, lT2]
      exact ⟨by rw [hwj], by repeat (first | exact hD2 | refine Drop.upd ?_ z_P | refine Drop.upd ?_ z_T), _, _, ⟨by rw [List.length_set]; omega, by rw [List.length_set]; omega, set_other hpm (by omega), set_other htm (by omega), hM⟩, rfl, rfl⟩
     ·simp only [go_sem, xP, xR, xS, H, h7, hP, hT, h6, hlt2, hc0, hK, nPT, nPT', n6P, n6T, n6P', n6T', gpc, gtc, gpm, gtm, lP, lT, hcl, hcl1, hml, ↓putP, ↓putT, gpm2, gtm2, lP2, lT2]
      exact ⟨by rw [hwj], by repeat (first | exact hD2 | refine Drop.upd ?_ z_P | refine Drop.upd ?_ z_T), _, _, ⟨by rw [List.length_set]; omega, by rw [List.length_set]; omega, set_other hpm (by omega), set_other htm (by omega), hM⟩, rfl, rfl⟩
    ·cases pc
     ·simp only [go_sem, xP, xR, xS, H, h7, hP, hT, h6, hlt2, hc0, hK, nPT, nPT', n6P, n6T, n6P', n6T', gpc, gtc, gpm, gtm, lP, lT, hcl, hcl1, hml, ↓putP, ↓putT, gpm2, gtm2, lP2, lT2]
      exact ⟨by rw [hwj], by repeat (first | exact hD2 | refine Drop.upd ?_ z_P | refine Drop.upd ?_ z_T), _, _, ⟨by rw [List.length_set]; omega, by rw [List.length_set]; omega, set_other hpm (by omega), set_other htm (by omega), hM⟩, rfl, rfl⟩
     ·simp only [go_sem, xP, xR, xS, H, h7, hP, hT, h6, hlt2, hc0, hK, nPT, nPT', n6P, n6T, n6P', n6T', gpc, gtc, gpm, gtm, lP, lT, hcl, hcl1, hml, ↓putP, ↓putT, gpm2, gtm2, lP2, lT2]
      exact ⟨by rw [hwj], by repeat (first | exact hD2 | refine Drop.upd ?_ z_P | refine Drop.upd ?_ z_T), _, _, ⟨by rw [List.length_set]; omega, by rw [List.length_set]; omega, set_other hpm (by omega), set_other htm (by omega), hM⟩, rfl, rfl⟩
   ·have hK := h2
    rw [markK, if_neg h2] at hM
    simp only [Int.toNat_natCast, hpc, htc, Option.getD_some] at hM
    cases tc
    ·cases pc
     ·simp only [go_sem, xP, xR, xS, H, h7, hP, hT, h6, hlt2, hc0, hK, nPT, nPT', n6P, n6T, n6P', n6T', gpc, gtc, gpm, gtm, lP, lT, hcl, hcl1, hml, ↓putP, ↓putT, gpm2, gtm2, lP2, lT2]
      exact ⟨by rw [hwj], by repeat (first | exact hD2 | refine Drop.upd ?_ z_P | refine Drop.upd ?_ z_T), _, _, ⟨by rw [List.length_set]; omega, by rw [List.length_set]; omega, set_other hpm (by omega), set_other htm (by omega), hM⟩, rfl, rfl⟩
     ·simp only [go_sem, xP, xR, xS, H, h7, hP, hT, h6, hlt2, hc0, hK, nPT, nPT', n6P, n6T, n6P', n6T', gpc, gtc, gpm, gtm, lP, lT, hcl, hcl1, hml, ↓putP, ↓putT, gpm2, gtm2, lP2, lT2]
      exact ⟨by rw [hwj], by repeat (first | exact hD2 | refine Drop.upd ?_ z_P | refine Drop.upd ?_ z_T), _, _, ⟨by rw [List.length_set]; omega, by rw [List.length_set]; omega, set_other hpm (by omega), set_other htm (by omega), hM⟩, rfl, rfl⟩
    ·cases pc
     ·simp only [go_sem, xP, xR, xS, H, h7, hP, hT, h6, hlt2, hc0, hK, nPT, nPT', n6P, n6T, n6P', n6T', gpc, gtc, gpm, gtm, lP, lT, hcl, hcl1, hml, ↓putP, ↓putT, gpm2, gtm2, lP2, lT2]
      exact ⟨by rw [hwj], by repeat (first | exact hD2 | refine Drop.upd ?_ z_P | refine Drop.upd ?_ z_T), _, _, ⟨by rw [List.length_set]; omega, by rw [List.length_set]; omega, set_other hpm (by omega), set_other htm (by omega), hM⟩, rfl, rfl⟩
     ·simp only [go_sem, xP, xR, xS, H, h7, hP, hT, h6, hlt2, hc0, hK, nPT, nPT', n6P, n6T, n6P', n6T', gpc, gtc, gpm, gtm, lP, lT, hcl, hcl1, hml, ↓putP, ↓putT, gpm2, gtm2, lP2, lT2]
      exact ⟨by rw [hwj], by repeat (first | exact hD2 | refine Drop.upd ?_ z_P | refine Drop.upd ?_ z_T), _, _, ⟨by rw [List.length_set]; omega, by rw [List.length_set]; omega, set_other hpm (by omega), set_other htm (by omega), hM⟩, rfl, rfl⟩
  ·subst hj
   rw [List.drop_length, markK] at hM
   have gtm := bv_get htm
   have lT : (T.map bv).length = f.nodes.length := by rw [List.length_map]; omega
   have hwm : IntKind.i64.wrap ((m : Int) - 1) = (f.nodes.length : Int) - 1 - ((k + 1 : Nat) : Int) := by rw [wrap_i64 _ (by omega) (by omega)]; omega
   have hU2 : badA n = false ∨ t = false → usedB f.nodes = usedF f.nodes (f.nodes.length - (k + 1)) (P, T) := fun h => by
    have e : (t && badA n) = false := by rcases h with h | h <;> simp [h]
    rw [e, hM] at hU
    simp only [Bool.false_eq_true, if_false] at hU
    rw [hU, show f.nodes.length - (k + 1) = m by omega]
   by_cases h1 : n.kind ≤ 1
   ·cases t
    ·simp only [go_sem, xP, xR, xS, H, h7, hT, h6, Nat.lt_irrefl, h1, gtm, lT, hml]
     exact ⟨hkl, by rw [hwm], hD2, P, T, ⟨lP1, lT1, hU2 (.inr rfl)⟩, hP, by first | exact hT | rfl⟩
    ·simp only [go_sem, xP, xR, xS, H, h7, hT, h6, Nat.lt_irrefl, h1, gtm, lT, hml]
     refine callB_use (f171 n.term (-1) (-1) (by have := hnf.1; omega)) rfl ?_
     simp only [go_sem, xP, xR, xS, H, h6]
     refine callB_use (f172 (timesT n.term (-1) (-1)) (by simpa [timesT] using hnf.1)) rfl ?_
     simp only [go_sem, xP, xR, xS, H, h6]
     by_cases i1 : inRangeB (timesT n.term (-1) (-1)) = true
     ·by_cases k1 : n.kind = 1
      ·simp only [go_sem, xP, xR, xS, H, h6, i1, k1]
       refine callB_use (f171 n.term 1 (-1) (by have := hnf.1; omega)) rfl ?_
       simp only [go_sem, xP, xR, xS, H, h6]
       refine callB_use (f172 (timesT n.term 1 (-1)) (by simpa [timesT] using hnf.1)) rfl ?_
       simp only [go_sem, xP, xR, xS, H, h6]
       by_cases i2 : inRangeB (timesT n.term 1 (-1)) = true
       ·simp only [go_sem, xP, xR, xS, H, i2]
        exact ⟨hkl, by rw [hwm], hD2, P, T, ⟨lP1, lT1, hU2 (.inl (by simp [badA, i1, i2]))⟩, hP, by first | exact hT | rfl⟩
       ·simp only [go_sem, xP, xR, xS, H, i2]
        exact retP_drop hD2 (by rw [hU]; simp [badA, h1, k1, i1, i2])
      ·simp only [go_sem, xP, xR, xS, H, h6, i1, k1]
       exact ⟨hkl, by rw [hwm], hD2, P, T, ⟨lP1, lT1, hU2 (.inl (by simp [badA, i1, k1]))⟩, hP, by first | exact hT | rfl⟩
     ·simp only [go_sem, xP, xR, xS, H, h6, i1]
      exact retP_drop hD2 (by rw [hU]; simp [badA, h1, i1])
   ·simp only [go_sem, xP, xR, xS, H, h7, hT, h6, Nat.lt_irrefl, h1]
    exact ⟨hkl, by rw [hwm], hD2, P, T, ⟨lP1, lT1, hU2 (.inl (by simp [badA, h1]))⟩, hP, by first | exact hT | rfl⟩
 ·have hke : k = f.nodes.length := by omega
  subst hke
  rw [Nat.sub_self, usedF] at hU
  have hneg : ¬ (0 : Int) ≤ (f.nodes.length : Int) - 1 - f.nodes.length := by omega
  simp only [go_sem, xP, xR, xS, H0, h5, hneg]
  exact retP_drop hD (by rw [hU])
theorem short_fitM {f : Fm} (h : shortFB f = true) : f.nodes.length ≤ 201 ∧ ∀ n ∈ f.nodes, NdFit n := by
 unfold shortFB at h
 rw [Bool.and_eq_true, Bool.or_eq_true, decide_eq_true_eq, decide_eq_true_eq, List.all_eq_true] at h
 refine ⟨by omega, fun n hn => ?_⟩
 have := h.1 n hn
 simp [shortNdB] at this
 exact ⟨by omega, by omega⟩
theorem f41ok (hG : Γ 0 = some sortsT) {f : Fm} {vs : List Int} (h : checkE f = 0) (hv : valuesE vs f.vars = 0) (hc : ∀ n ∈ f.nodes, NdFit n) : PCalls Tryz.prog Γ 41 [fmA f, slI vs] (.tup [.v (.bool (holdsB f vs)), int 0]) := by
 obtain ⟨hne, hl200, hv0, hv8, hN⟩ := check_ok h
 obtain ⟨hvl, _⟩ := values_okM hv
 have he : holdsE f vs = 0 := (firstE_zero _).2 fun x hx => by
  simp only [List.mem_cons, List.not_mem_nil, or_false] at hx
  rcases hx with rfl | rfl
  ·exact h
  ·exact hv
 have := f41 hG f vs (by omega) hc (by omega)
 rwa [he, if_pos rfl] at this
def resL (o : Option (List (List Tm))) : AV := .tup [slC (o.getD []), int (match o with | some _ => 0 | none => 30)]
def BdC (C : List (List Tm)) : Prop := C.length ≤ 64 ∧ maxL C ≤ 32
def ListsAt (Γ : Glob) (f : Fm) (i : Nat) : Prop := ∀ b : Bool, PCalls Tryz.prog Γ 152 [fmA f, int i, .v (.bool b)] (resL (refW f.nodes ((i : Int), b))) ∧ ∀ C, refW f.nodes ((i : Int), b) = some C → BdC C
theorem okP_iff {C : List (List Tm)} : okP C = true ↔ BdC C := by
 unfold okP BdC
 rw [Bool.and_eq_true, decide_eq_true_eq, decide_eq_true_eq]
def partN (A C : List (List Tm)) (k : Nat) (x : List Tm) (j : Nat) : List (List Tm) := prodC (A.take k) C ++ (C.take j).map fun y => x ++ y
theorem partN_mem {A C : List (List Tm)} {k j : Nat} {x y : List Tm} (hx : A[k]? = some x) (hy : C[j]? = some y) : x ++ y ∈ prodC A C := by
 rw [prodC]
 exact List.mem_flatMap.2 ⟨x, mem_of_get hx, List.mem_map.2 ⟨y, mem_of_get hy, rfl⟩⟩
theorem partN_len {A C : List (List Tm)} {k j : Nat} {x : List Tm} (hx : A[k]? = some x) (hj : j ≤ C.length) : (partN A C k x j).length = k * C.length + j ∧ k * C.length + j ≤ (prodC A C).length := by
 have hk := lt_of_getElem? hx
 have h1 : (partN A C k x j).length = k * C.length + j := by
  rw [partN, List.length_append, prodC_len, List.length_map, List.length_take, List.length_take, Nat.min_eq_left (by omega), Nat.min_eq_left hj]
 refine ⟨h1, ?_⟩
 rw [prodC_len]
 have : (k + 1) * C.length ≤ A.length * C.length := Nat.mul_le_mul_right _ hk
 rw [Nat.add_mul, Nat.one_mul] at this
 omega
theorem partN_succ {A C : List (List Tm)} {k j : Nat} {x y : List Tm} (hy : C[j]? = some y) : partN A C k x (j + 1) = partN A C k x j ++ [x ++ y] := by
 rw [partN, partN, take_succ hy, List.map_append, List.append_assoc]; rfl
theorem partN0 {A C : List (List Tm)} {k : Nat} {x : List Tm} : partN A C k x 0 = prodC (A.take k) C := by rw [partN, List.take_zero, List.map_nil, List.append_nil]
theorem partN_end {A C : List (List Tm)} {k : Nat} {x : List Tm} (hx : A[k]? = some x) : partN A C k x C.length = prodC (A.take (k + 1)) C := by
 rw [partN, List.take_length, prodC_succ hx]
theorem bad_len {A C : List (List Tm)} {x : List Tm} (h : x ∈ prodC A C) (hl : 32 < x.length) : okP (prodC A C) = false := by
 cases ho : okP (prodC A C)
 ·rfl
 ·have := (okP_iff.1 ho).2
  have := maxL_mem h
  omega
theorem bad_many {A C : List (List Tm)} (h : 64 < (prodC A C).length) : okP (prodC A C) = false := by
 cases ho : okP (prodC A C)
 ·rfl
 ·have := (okP_iff.1 ho).1
  omega
theorem refProd_bad {A C : List (List Tm)} {S : List (List (List Tm))} (h : okP (prodC A C) = false) : refProd (C :: S) A = none := by rw [refProd, h]; rfl
theorem tms_one (l : List Tm) : (l.flatMap tmC).all AV.one = true := by
 rw [List.all_flatMap, List.all_eq_true]
 intro t _
 rfl
theorem tms_len (l : List Tm) : (l.flatMap tmC).length = l.length * 2 := by
 induction l with
 | nil => rfl
 | cons t l ih => rw [List.flatMap_cons, List.length_append, ih, List.length_cons]; show 2 + _ = _; omega
@[reducible] noncomputable def p225z (Γ : Glob) : Par := par Γ [] [(24, [false, false, false, false, false, false, false, false, false, true, false, false, true]), (1000014, [true]), (1000017, [true]), (1000025, [true])] [(6, [0, 0, 0, 6, 14, 0, 63, 127, 255, 255, 511, 2047]), (24, [0, 0, 0, 6, 14, 31, 0, 0, 192, 448, 0, 1984, 4032, 8191, 16383])]
theorem ok225z (Γ : Glob) : FnOk (p225z Γ) 225 97 (Tryz.f225.body.getD .skip) Tryz.f225.results.toList 3 := fnOk (par_mixed _ _ _ _) Tryz.func225 rfl rfl rfl (by kernel_rfl) (Nat.le_of_ble_eq_true rfl) (by kernel_rfl)
def OutA (σ0 σ : Sig) (a : AV) (A : List (List Tm)) : Prop := (a = .sl [.v (.slice none 0 0)] 1 ∧ A = [[]]) ∨ Grow σ0 σ 1 a (A.map slT) A.length
theorem OutA.frz {σ0 σ : Sig} {a : AV} {A : List (List Tm)} (h : OutA σ0 σ a A) (hD : Drop σ σ0) : ∃ σ', Drop σ σ' ∧ Drop σ' σ0 ∧ Fz σ σ' a (slC A) := by
 rcases h with ⟨rfl, rfl⟩ | h
 ·exact ⟨σ, Drop.refl _, hD, .sl (.cons .nil .nil)⟩
 ·rcases h with ⟨h, h1, h2⟩ | ⟨b, c, rfl, h1, h2, h3⟩
  ·have : A = [] := List.eq_nil_of_length_eq_zero h2
   subst this
   exact ⟨σ, Drop.refl _, hD, by rcases h with rfl | rfl; exact .nil; exact .e0⟩
  ·exact ⟨ers σ b, Drop.ers σ b, hD.ersX h1, frz_own h2 h3 (ers_same _ _)⟩
theorem OutA.ret {σ0 σ : Sig} {a : AV} {A : List (List Tm)} (h : OutA σ0 σ a A) (hD : Drop σ σ0) : Fz σ σ0 a (slC A) := by
 rcases h with ⟨rfl, rfl⟩ | h
 ·exact .sl (.cons .nil .nil)
 ·exact (h.retP hD).1
theorem Grow.frz {σ0 σ : Sig} {s n : Nat} {a : AV} {cs : List AV} (h : Grow σ0 σ s a cs n) (hD : Drop σ σ0) : ∃ σ', Drop σ σ' ∧ Drop σ' σ0 ∧ Fz σ σ' a (.sl cs n) ∧ ∀ i, (∀ s o m, a ≠ .own i s o m) → σ' i = σ i := by
 rcases h with ⟨h, rfl, rfl⟩ | ⟨b, c, rfl, h1, h2, h3⟩
 ·exact ⟨σ, Drop.refl _, hD, by rcases h with rfl | rfl; exact .nil; exact .e0, fun _ _ => rfl⟩
 ·exact ⟨ers σ b, Drop.ers σ b, hD.ersX h1, frz_own h2 h3 (ers_same _ _), fun i hi => ers_ne _ _ _ (fun e => hi s 0 n (by rw [e]))⟩
theorem Grow.keepS {σ0 σ σ' : Sig} {s n : Nat} {a : AV} {cs : List AV} (h : Grow σ0 σ s a cs n) (hk : ∀ b cs c, σ b = some (.row cs s c) → σ' b = σ b) : Grow σ0 σ' s a cs n := by
 rcases h with h | ⟨b, c, h0, h1, h2, h3⟩
 ·exact .inl h
 ·exact .inr ⟨b, c, h0, h1, by rw [hk b _ _ h2]; exact h2, h3⟩
theorem bd_take {A C : List (List Tm)} {k : Nat} {x y : List Tm} {j : Nat} (h : BdC (partN A C k x j)) (h1 : ¬ 64 < k * C.length + j + 1) (hx : A[k]? = some x) (hj : j ≤ C.length) (h2 : ¬ 32 < (x ++ y).length) : BdC (partN A C k x j ++ [x ++ y]) := by
 refine ⟨?_, ?_⟩
 ·rw [List.length_append, (partN_len hx hj).1]; simp; omega
 ·rw [maxL_app]
  have := h.2
  simp only [maxL]
  omega
set_option maxHeartbeats 4000000 in
set_option maxRecDepth 20000 in
theorem f225 (f : Fm) (i : Nat) (ih : ∀ j, j < i → ListsAt Γ f j) (ks : List Int) (hk : ∀ k ∈ ks, 0 ≤ k ∧ k < (i : Int)) (hkl : ks.length ≤ 1000) (b : Bool) : PCalls Tryz.prog Γ 225 [fmA f, slI ks, .v (.bool b)] (resL ((refAll (ks.map fun x => refW f.nodes (x, b)) []).bind refAnd)) := by
 have q30 : ((30 : Int) = 0) = False := eq_false (by decide)
 refine pcalls (ok225z Γ) fun σ => ?_
 simp only [go_sem, xP, xR, xS, Tryz.f225]
 refine SemC.loopK mixed ks.length (fun k ρ σ' ds => ds = [] ∧ (ρ 1 = slI ks ∧ ρ 2 = .v (.bool b) ∧ ρ 3 = .pp (fmC f) 0 ∧ ρ 6 = .v (.slice none 0 0) ∧ ρ 7 = int 0) ∧ ρ 10 = int k ∧ Drop σ' σ ∧ ∃ S : List (List (List Tm)), (S.length = k ∧ refAll (ks.map fun x => refW f.nodes (x, b)) [] = refAll ((ks.drop k).map fun x => refW f.nodes (x, b)) S ∧ ∀ C ∈ S, BdC C) ∧ ρ 9 = .v (.bool (S.any fun x => decide (x.length = 0))) ∧ Grow σ σ' 1 (ρ 8) (S.map slC) k) (by kernel_rfl) ⟨rfl, by simp only [go_sem, xP, xR, xS], rfl, Drop.refl _, [], ⟨rfl, rfl, fun C hC => by cases hC⟩, rfl, .nil _ _ _⟩ ?_
 rintro k ρ σ' ds hkk ⟨rfl, H, h10, hD, S, ⟨hSl, hz, hSb⟩, h9, hG⟩
 rcases get_or_end ks k hkk with ⟨x, hx, hlt, hd⟩ | hkk
 ·obtain ⟨m, rfl, hm⟩ := kids_nat hk hx
  obtain ⟨cL, cB⟩ := ih m hm b
  rw [hd, List.map_cons] at hz
  simp only [go_sem, xP, xR, xS, H, h10, hlt, hx]
  cases hR : refW f.nodes ((m : Int), b) with
  | none =>
   rw [hR] at cL hz
   rw [refAll] at hz
   simp only [resL, Option.getD_none] at cL
   refine callB_use (cL) rfl ?_
   simp only [go_sem, xP, xR, xS, H, q30]
   rw [hz]
   exact ⟨.tup (.cons .nil (.cons (.refl _) .nil)), hD⟩
  | some C =>
   rw [hR] at cL hz
   rw [refAll] at hz
   simp only [resL, Option.getD_some] at cL
   have hCb := cB C hR
   obtain ⟨a, ha⟩ : ∃ a, ρ 8 = a := ⟨_, rfl⟩
   rw [ha] at hG
   refine callB_use (cL) rfl ?_
   simp only [go_sem, xP, xR, xS, H, h10]
   have fin : ∀ (a' : AV) (σ2 : Sig), Drop σ2 σ → Grow σ σ2 1 a' (S.map slC ++ [slC C]) (k + 1) → ((S ++ [C]).length = k + 1 ∧ refAll (ks.map fun x => refW f.nodes (x, b)) [] = refAll ((ks.drop (k + 1)).map fun x => refW f.nodes (x, b)) (S ++ [C]) ∧ ∀ D ∈ S ++ [C], BdC D) ∧ Grow σ σ2 1 a' ((S ++ [C]).map slC) (k + 1) := fun a' σ2 _ hg => ⟨⟨by simp [hSl], hz, fun D hD => by
    rcases List.mem_append.1 hD with h | h
    ·exact hSb D h
    ·rw [List.mem_singleton] at h; subst h; exact hCb⟩, by simpa using hg⟩
   cases hA : S.any fun x => decide (x.length = 0)
   ·rw [hA] at h9
    simp only [go_sem, xP, xR, xS, H, h10, h9, ha]
    refine appB_sl (appT_sl el350 tk76 by76 el350 (by decide) rfl (by decide)) hD hG rfl rfl (by omega) (fun a' σ2 hD2 hO hG2 => ?_)
    simp only [go_sem, xP, xR, xS, H, h10, h9, hlt]
    obtain ⟨f1, f2⟩ := fin a' σ2 hD2 hG2
    exact ⟨by rw [wrap_succ _ (by omega)], hD2, S ++ [C], f1, by rw [List.any_append, hA]; simp, f2⟩
   ·rw [hA] at h9
    simp only [go_sem, xP, xR, xS, H, h10, h9, ha]
    refine appB_sl (appT_sl el350 tk76 by76 el350 (by decide) rfl (by decide)) hD hG rfl rfl (by omega) (fun a' σ2 hD2 hO hG2 => ?_)
    simp only [go_sem, xP, xR, xS, H, h10, h9, hlt]
    obtain ⟨f1, f2⟩ := fin a' σ2 hD2 hG2
    exact ⟨by rw [wrap_succ _ (by omega)], hD2, S ++ [C], f1, by rw [List.any_append, hA]; simp, f2⟩
 ·subst hkk
  rw [List.drop_length, List.map_nil, refAll] at hz
  rw [hz, Option.bind_some, refAnd]
  cases hA : S.any fun x => decide (x.length = 0)
  ·rw [hA] at h9
   simp only [Bool.false_eq_true, if_false]
   simp only [go_sem, xP, xR, xS, H, h10, h9, Nat.lt_irrefl]
   obtain ⟨σ1, d1, d2, z1, _⟩ := hG.frz hD
   rw [← hSl] at z1
   refine frzB_val 8 (σ' := σ1) (r := slCC S) d1 (by simp only [go_sem, xP, xR, xS]; exact z1) ?_
   simp only [go_sem, xP, xR, xS, H, slCC]
   refine SemC.loopK mixed S.length (fun i ρ σ' ds => ds = [] ∧ (ρ 8 = slCC S ∧ ρ 6 = .v (.slice none 0 0) ∧ ρ 7 = int 0) ∧ ρ 14 = int i ∧ Drop σ' σ ∧ ∃ A, (BdC A ∧ refProd S [[]] = refProd (S.drop i) A) ∧ OutA σ σ' (ρ 13) A) (by kernel_rfl) ⟨rfl, by simp only [go_sem, xP, xR, xS, H, slCC], rfl, d2, [[]], ⟨⟨by decide, by decide⟩, rfl⟩, .inl ⟨by simp only [go_sem, xP, xR, xS], rfl⟩⟩ ?_
   rintro i ρ σ' ds hi ⟨rfl, H, h14, hD, A, ⟨hAb, hz⟩, hOut⟩
   rcases get_or_end S i hi with ⟨C, hC, hltC, hdC⟩ | hi
   ·have hCb := hSb C (mem_of_get hC)
    have hCg := slCC_get hC
    rw [hdC] at hz
    obtain ⟨a, ha⟩ : ∃ a, ρ 13 = a := ⟨_, rfl⟩
    rw [ha] at hOut
    simp only [go_sem, xP, xR, xS, H, h14, slCC, hltC]
    obtain ⟨σ1, d1, d2, z1⟩ := hOut.frz hD
    refine frzB_val 13 (σ' := σ1) (r := slC A) d1 (by simp only [go_sem, xP, xR, xS, ha]; exact z1) ?_
    simp only [go_sem, xP, xR, xS, H, h14, slCC, slC]
    refine SemC.loopK mixed A.length (fun k ρ σ' ds => ds = [] ∧ (ρ 8 = slCC S ∧ ρ 6 = .v (.slice none 0 0) ∧ ρ 7 = int 0 ∧ ρ 13 = slC A ∧ ρ 14 = int i) ∧ ρ 16 = int k ∧ Drop σ' σ ∧ BdC (prodC (A.take k) C) ∧ Grow σ σ' 1 (ρ 15) ((prodC (A.take k) C).map slT) (k * C.length)) (by kernel_rfl) ⟨rfl, by simp only [go_sem, xP, xR, xS, H, h14, slCC, slC], rfl, d2, ⟨by simp [prodC], by simp [prodC, maxL]⟩, by simp only [List.take_zero, Nat.zero_mul]; exact .nil _ _ _⟩ ?_
    rintro k ρ σ' ds hk' ⟨rfl, H, h16, hD, hPb, hG⟩
    rcases get_or_end A k hk' with ⟨x, hx, hltA, hdA⟩ | hk'
    ·have hxg := slC_get hx
     have hxl : x.length ≤ 32 := Nat.le_trans (maxL_mem (mem_of_get hx)) hAb.2
     simp only [go_sem, xP, xR, xS, H, h16, slCC, slC, hltA]
     refine SemC.loopK mixed C.length (fun j ρ σ' ds => ds = [] ∧ (ρ 8 = slCC S ∧ ρ 6 = .v (.slice none 0 0) ∧ ρ 7 = int 0 ∧ ρ 13 = slC A ∧ ρ 14 = int i ∧ ρ 16 = int k) ∧ ρ 17 = int j ∧ Drop σ' σ ∧ BdC (partN A C k x j) ∧ Grow σ σ' 1 (ρ 15) ((partN A C k x j).map slT) (k * C.length + j)) (by kernel_rfl) ⟨rfl, by simp only [go_sem, xP, xR, xS, H, h16, slCC, slC], rfl, hD, by rw [partN0]; exact hPb, by rw [partN0, Nat.add_zero]; exact hG⟩ ?_
     rintro j ρ σ' ds hj ⟨rfl, H, h17, hD, hNb, hG⟩
     rcases get_or_end C j hj with ⟨y, hy, hltj, hdj⟩ | hj
     ·have hyg := slC_get hy
      have hyl : y.length ≤ 32 := Nat.le_trans (maxL_mem (mem_of_get hy)) hCb.2
      have hNl := partN_len hx (Nat.le_of_lt hltj)
      have hNl1 := partN_len (x := x) hx hltj
      have hN64 := hNb.1
      rw [hNl.1] at hN64
      obtain ⟨a, ha⟩ : ∃ a, ρ 15 = a := ⟨_, rfl⟩
      rw [ha] at hG
      simp only [go_sem, xP, xR, xS, H, h17, slCC, slC, hltC, hCg, hltj, hltA, hxg, hyg, slT]
      refine appB_sl (appT_sl el22 tk88 by88 el22 (by decide) rfl (by decide)) hD (Grow.e0 σ _ 2) (tms_one x) (tms_len x) (by omega) (fun a1 σ1 hD1 hO1 hG1 => ?_)
      simp only [go_sem, xP, xR, xS, H, h17, slCC, slC, hltC, hCg, hltj, hltA, hxg, hyg, slT]
      refine appB_sl (appT_sl el22 tk88 by88 el22 (by decide) rfl (by decide)) hD1 hG1 (tms_one y) (tms_len y) (by omega) (fun a2 σ2 hD2 hO2 hG2 => ?_)
      have e : AV.sl ([] ++ x.flatMap tmC ++ y.flatMap tmC) (0 + x.length + y.length) = slT (x ++ y) := by simp [slT]
      obtain ⟨σ3, d1, d2, z1, o1⟩ := hG2.frz hD2
      have g1 := hG.keepS (σ' := σ1) fun b cs c h => hO1 b (fun s o m e => by cases e) (by rw [h]; exact fun e => by cases e)
      have g2 := g1.keepS (σ' := σ2) fun b cs c h => hO2 b (hG1.neS h (by decide)) (by rw [h]; exact fun e => by cases e)
      have g3 := g2.keepS (σ' := σ3) fun b cs c h => o1 b (hG2.neS h (by decide))
      simp only [go_sem, xP, xR, xS, H, h17, slCC, slC, slT]
      refine frzB_val 18 (σ' := σ3) (r := slT (x ++ y)) d1 (by simp only [go_sem, xP, xR, xS]; show Fz _ _ _ (slT (x ++ y)); rw [← e]; exact z1) ?_
      by_cases h32 : (32 : Int) < (x ++ y).length
      ·simp only [go_sem, xP, xR, xS, H, h17, slCC, slC, slT, h32]
       rw [hz, refProd_bad (bad_len (partN_mem hx hy) (by omega))]
       exact ⟨.tup (.cons .nil (.cons (.refl _) .nil)), d2⟩
      ·simp only [go_sem, xP, xR, xS, H, h17, slCC, slC, slT, h32, ha]
       refine appB_sl (appT_sl el76 tk22 by22 el76 (by decide) rfl (by decide)) d2 g3 rfl rfl (by omega) (fun a4 σ4 hD4 hO4 hG4 => ?_)
       obtain ⟨ba, ca, ea, hba⟩ := hG4.own_of (by simp)
       subst ea
       by_cases h64 : (64 : Int) < ((k * C.length + j + 1 : Nat) : Int)
       ·simp only [go_sem, xP, xR, xS, H, h17, slCC, slC, slT, h64]
        rw [hz, refProd_bad (bad_many (by omega))]
        exact ⟨.tup (.cons .nil (.cons (.refl _) .nil)), hD4⟩
       ·simp only [go_sem, xP, xR, xS, H, h17, slCC, slC, slT, h64]
        refine ⟨hltj, by rw [wrap_succ _ (by omega)], hD4, ?_, ?_⟩
        ·rw [partN_succ hy]
         exact bd_take hNb (by omega) hx (Nat.le_of_lt hltj) (by omega)
        ·rw [partN_succ hy, List.map_append]
         simpa [slT, Nat.add_assoc] using hG4
     ·subst hj
      rw [partN_end hx] at hNb hG
      simp only [go_sem, xP, xR, xS, H, h17, slCC, slC, Nat.lt_irrefl, hltC, hCg]
      refine ⟨hltA, by rw [wrap_succ _ (by have := hAb.1; omega)], hD, hNb, ?_⟩
      rw [Nat.add_mul, Nat.one_mul]
      exact hG
    ·subst hk'
     rw [List.take_length] at hPb hG
     rw [refProd, if_pos (okP_iff.2 hPb)] at hz
     simp only [go_sem, xP, xR, xS, H, h16, slCC, slC, Nat.lt_irrefl]
     exact ⟨hltC, by rw [wrap_succ _ (by omega)], hD, prodC A C, ⟨hPb, hz⟩, .inr (by rw [prodC_len]; exact hG)⟩
   ·subst hi
    rw [List.drop_length, refProd] at hz
    rw [hz]
    simp only [go_sem, xP, xR, xS, H, h14, slCC, Nat.lt_irrefl]
    exact ⟨.tup (.cons (hOut.ret hD) (.cons (.refl _) .nil)), hD⟩
  ·rw [hA] at h9
   simp only [if_true]
   simp only [go_sem, xP, xR, xS, H, h10, h9, Nat.lt_irrefl]
   exact ⟨.tup (.cons .nil (.cons (.refl _) .nil)), hD⟩
theorem ref_bd {l : List Nd} {vars : Int} (hd : KidsDown l) (hok : ∀ k n, l[k]? = some n → NodeOk n k vars) {i : Nat} {n : Nd} (hn : l[i]? = some n) {b : Bool} {C : List (List Tm)} (h : refW l ((i : Int), b) = some C) : BdC C := by
 rw [ref_cas hd hok (i + 1) i b n (by omega) hn] at h
 cases hb : badW l ((i : Int), b)
 ·rw [hb] at h
  simp at h
  subst h
  have := (cnt_cas hd hok (i + 1) i b n (by omega) hn).2 hb
  exact ⟨this.1, this.2.1⟩
 ·rw [hb] at h
  simp at h
set_option maxHeartbeats 4000000 in
set_option maxRecDepth 20000 in
theorem f152 (f : Fm) (hc : ∀ n ∈ f.nodes, NdFit n) (hd : KidsDown f.nodes) (hok : ∀ k n, f.nodes[k]? = some n → NodeOk n k f.vars) (i : Nat) (n : Nd) (hn : f.nodes[i]? = some n) (ih : ∀ j, j < i → ListsAt Γ f j) : ListsAt Γ f i := by
 intro b
 refine ⟨?_, fun C h => ref_bd hd hok hn h⟩
 have hO := hok i n hn
 have hnf := hc n (mem_of_get hn)
 have hn1 := hnf.1
 have hn2 := hnf.2
 have hlt := lt_of_getElem? hn
 have hkd : ∀ c ∈ n.kids, 0 ≤ c ∧ c < (i : Int) := hd i n hn
 have q30 : ((30 : Int) = 0) = False := eq_false (by decide)
 have q10 : ((1 : Int) = 0) = False := eq_false (by decide)
 have q20 : ((2 : Int) = 0) = False := eq_false (by decide)
 have q21 : ((2 : Int) = 1) = False := eq_false (by decide)
 have q3 : ((3 : Int) = 0) = False := eq_false (by decide)
 have q31 : ((3 : Int) = 1) = False := eq_false (by decide)
 have q32 : ((3 : Int) = 2) = False := eq_false (by decide)
 have q34 : ((3 : Int) = 4) = False := eq_false (by decide)
 have q4 : ((4 : Int) = 0) = False := eq_false (by decide)
 have q41 : ((4 : Int) = 1) = False := eq_false (by decide)
 have q42 : ((4 : Int) = 2) = False := eq_false (by decide)
 have y1 : (!(false == false)) = false := rfl
 have y2 : (!(false == true)) = true := rfl
 have y3 : (!(true == false)) = true := rfl
 have y4 : (!(true == true)) = false := rfl
 have hlo := hO.lo
 have hhi := hO.hi
 rw [refW_eq hd hn, mkR]
 refine pcalls (ok152 Γ) fun σ => ?_
 simp only [go_sem, xP, xR, xS, Tryz.f152, hlt, ↓nd_part hn]
 intro b8 hb8
 simp only [go_sem, xP, xR, xS, hlt, ↓nd_part hn]
 intro b9 hb9
 obtain ⟨n98, hb9⟩ := un hb9
 have n98' : ¬ b8 = b9 := fun e => n98 e.symm
 rcases kind5 (n := n.kind) (by omega) with h0 | h0 | h0 | h0 | h0
 ·rw [if_pos (.inl h0), atomR, if_pos h0]
  cases b
  ·simp only [go_sem, xP, xR, xS, n98, n98', h0]
   exact retP_drop (by repeat (first | exact Drop.refl _ | assumption | refine Drop.upd ?_ (by assumption))) (rfl)
  ·simp only [go_sem, xP, xR, xS, n98, n98', h0]
   refine callB_use (f171 n.term (-1) (-1) hn1) rfl ?_
   simp only [go_sem, xP, xR, xS, n98, n98']
   exact retP_drop (by repeat (first | exact Drop.refl _ | assumption | refine Drop.upd ?_ (by assumption))) (rfl)
 ·rw [if_pos (.inr h0), atomR, if_neg (by omega)]
  cases b
  ·simp only [go_sem, xP, xR, xS, n98, n98', h0, q10]
   refine dcallB_use (f171 n.term (-1) 0 hn1) rfl ?_
   simp only [go_sem, xP, xR, xS, n98, n98']
   exact retP_drop (by repeat (first | exact Drop.refl _ | assumption | refine Drop.upd ?_ (by assumption))) (rfl)
  ·simp only [go_sem, xP, xR, xS, n98, n98', h0, q10]
   refine dcallB_use (f171 n.term 1 (-1) hn1) rfl ?_
   simp only [go_sem, xP, xR, xS, n98, n98']
   refine callB_use (f171 n.term (-1) (-1) hn1) rfl ?_
   simp only [go_sem, xP, xR, xS, n98, n98']
   exact retP_drop (by repeat (first | exact Drop.refl _ | assumption | refine Drop.upd ?_ (by assumption))) (rfl)
 ·obtain ⟨x, hx⟩ := List.length_eq_one_iff.1 ((hO.form (by omega)).2.2.1 h0)
  have hx0 : n.kids[0]? = some x := by rw [hx]; rfl
  obtain ⟨m, rfl, hm⟩ := kids_nat hkd hx0
  obtain ⟨cL, _⟩ := ih m hm (!b)
  have hsub : (subR f.nodes n b).headD none = refW f.nodes ((m : Int), !b) := by
   rw [subR, hx, h0]
   simp
  rw [if_neg (by omega), if_pos h0, hsub]
  simp only [resL] at cL
  simp only [go_sem, xP, xR, xS, n98, n98', h0, q20, q21, hx]
  refine callB_use (cL) rfl ?_
  simp only [go_sem, xP, xR, xS]
  exact retP_drop (by repeat (first | exact Drop.refl _ | assumption | refine Drop.upd ?_ (by assumption))) (rfl)
 ·have hsub : subR f.nodes n b = n.kids.map fun x => refW f.nodes (x, b) := by
   unfold subR
   refine List.map_congr_left fun x _ => ?_
   rw [h0]; simp
  rw [if_neg (by omega), if_neg (by omega), hsub, h0]
  cases b
  ·rw [if_neg (by decide)]
   simp only [go_sem, xP, xR, xS, n98, n98', h0, q3, q31, q32, q34, y1, y2, y3, y4]
   have c225 := f225 (Γ := Γ) f i ih n.kids hkd (by have := (hO.form (by omega)).2.1; omega) false
   simp only [resL] at c225
   refine callB_use (c225) rfl ?_
   simp only [go_sem, xP, xR, xS]
   exact retP_drop (by repeat (first | exact Drop.refl _ | assumption | refine Drop.upd ?_ (by assumption))) (rfl)
  ·rw [if_pos (by decide)]
   simp only [go_sem, xP, xR, xS, n98, n98', h0, q3, q31, q32, q34, y1, y2, y3, y4]
   refine SemC.loopK mixed n.kids.length (fun j ρ σ' ds => ds = [] ∧ (ρ 2 = .v (.bool true) ∧ ρ 3 = .pp (fmC f) 0 ∧ ρ 6 = .v (.slice none 0 0) ∧ ρ 7 = int 0 ∧ ρ 8 = .v (.pointer (some ⟨b8, 0, none⟩))) ∧ ρ 11 = int j ∧ Drop σ' σ ∧ σ' b8 = some (.row [int n.kind, slI n.term.coeffs, int n.term.const, slI n.kids] 4 1) ∧ ∃ acc : List (List Tm), (acc.length ≤ 64 ∧ refOr (n.kids.map fun x => refW f.nodes (x, true)) [] = refOr ((n.kids.drop j).map fun x => refW f.nodes (x, true)) acc) ∧ Grow σ σ' 1 (ρ 10) (acc.map slT) acc.length) (by kernel_rfl) ?_ ?_
   ·refine ⟨rfl, by simp only [go_sem, xP, xR, xS], rfl, ?_, by simp only [go_sem, xP, xR, xS, n98, n98', h0], [], ⟨by decide, rfl⟩, .nil _ _ _⟩
    repeat (first | exact Drop.refl _ | assumption | refine Drop.upd ?_ (by assumption))
   rintro j ρ σ' ds hj ⟨rfl, H, h11, hD, g8, acc, ⟨hal, hz⟩, hG⟩
   rcases get_or_end n.kids j hj with ⟨x, hx, hltj, hdj⟩ | hj
   ·obtain ⟨m, rfl, hm⟩ := kids_nat hkd hx
    obtain ⟨cL, cB⟩ := ih m hm true
    rw [hdj, List.map_cons] at hz
    obtain ⟨a, ha⟩ : ∃ a, ρ 10 = a := ⟨_, rfl⟩
    rw [ha] at hG
    simp only [go_sem, xP, xR, xS, H, h11, g8, hltj, hx]
    cases hR : refW f.nodes ((m : Int), true) with
    | none =>
     rw [hR] at cL hz
     rw [refOr] at hz
     simp only [resL, Option.getD_none] at cL
     refine callB_use (cL) rfl ?_
     simp only [go_sem, xP, xR, xS, H, q30]
     rw [hz]
     exact ⟨.tup (.cons .nil (.cons (.refl _) .nil)), hD⟩
    | some C =>
     rw [hR] at cL hz
     simp only [resL, Option.getD_some] at cL
     have hCb := cB C hR
     have hC64 := hCb.1
     refine callB_use (cL) rfl ?_
     simp only [go_sem, xP, xR, xS, H, h11, ha]
     refine appB_sl (appT_sl el76 tk22 by22 el76 (by decide) rfl (by decide)) hD hG (one_slT C) (by simp) (by omega) (fun a' σ2 hD2 hO hG2 => ?_)
     have g8' : σ2 b8 = some (.row [int n.kind, slI n.term.coeffs, int n.term.const, slI n.kids] 4 1) := by rw [hO b8 (hG.neS g8 (by decide)) (by simp [g8]), g8]
     have hGn : Grow σ σ2 1 a' ((acc ++ C).map slT) (acc ++ C).length := by rw [List.map_append, List.length_append]; exact hG2
     have g8 := g8'
     rcases hG2 with ⟨haa, hnil, h00⟩ | ⟨ba, ca, rfl, _, _, _⟩
     ·have h0 : ¬ (64 : Int) < ((acc.length + C.length : Nat) : Int) := by omega
      have hzz := hz
      rw [refOr, if_neg (by rw [List.length_append]; omega)] at hzz
      rcases haa with rfl | rfl
      ·simp only [go_sem, xP, xR, xS, H, h0, show ((64 : Int) < 0) = False from eq_false (by decide), h11]
       exact ⟨hltj, by rw [wrap_succ _ (by omega)], hD2, g8, acc ++ C, ⟨by rw [List.length_append]; omega, hzz⟩, hGn⟩
      ·simp only [go_sem, xP, xR, xS, H, h0, show ((64 : Int) < 0) = False from eq_false (by decide), h11]
       exact ⟨hltj, by rw [wrap_succ _ (by omega)], hD2, g8, acc ++ C, ⟨by rw [List.length_append]; omega, hzz⟩, hGn⟩
     ·by_cases h64 : (64 : Int) < ((acc.length + C.length : Nat) : Int)
      ·simp only [go_sem, xP, xR, xS, H, h64, h11]
       rw [hz, refOr, if_pos (by rw [List.length_append]; omega)]
       exact ⟨.tup (.cons .nil (.cons (.refl _) .nil)), hD2⟩
      ·simp only [go_sem, xP, xR, xS, H, h64, h11]
       rw [refOr, if_neg (by rw [List.length_append]; omega)] at hz
       exact ⟨hltj, by rw [wrap_succ _ (by omega)], hD2, g8, acc ++ C, ⟨by rw [List.length_append]; omega, hz⟩, hGn⟩
   ·subst hj
    rw [List.drop_length, List.map_nil, refOr] at hz
    rw [hz]
    simp only [go_sem, xP, xR, xS, H, h11, g8, Nat.lt_irrefl]
    exact ⟨.tup (.cons (hG.retP hD).1 (.cons (.refl _) .nil)), hD⟩
 ·have hsub : subR f.nodes n b = n.kids.map fun x => refW f.nodes (x, b) := by
   unfold subR
   refine List.map_congr_left fun x _ => ?_
   rw [h0]; simp
  rw [if_neg (by omega), if_neg (by omega), hsub, h0]
  cases b
  ·rw [if_pos (by decide)]
   simp only [go_sem, xP, xR, xS, n98, n98', h0, q4, q41, q42, y1, y2, y3, y4]
   refine SemC.loopK mixed n.kids.length (fun j ρ σ' ds => ds = [] ∧ (ρ 2 = .v (.bool false) ∧ ρ 3 = .pp (fmC f) 0 ∧ ρ 6 = .v (.slice none 0 0) ∧ ρ 7 = int 0 ∧ ρ 8 = .v (.pointer (some ⟨b8, 0, none⟩))) ∧ ρ 11 = int j ∧ Drop σ' σ ∧ σ' b8 = some (.row [int n.kind, slI n.term.coeffs, int n.term.const, slI n.kids] 4 1) ∧ ∃ acc : List (List Tm), (acc.length ≤ 64 ∧ refOr (n.kids.map fun x => refW f.nodes (x, false)) [] = refOr ((n.kids.drop j).map fun x => refW f.nodes (x, false)) acc) ∧ Grow σ σ' 1 (ρ 10) (acc.map slT) acc.length) (by kernel_rfl) ?_ ?_
   ·refine ⟨rfl, by simp only [go_sem, xP, xR, xS], rfl, ?_, by simp only [go_sem, xP, xR, xS, n98, n98', h0], [], ⟨by decide, rfl⟩, .nil _ _ _⟩
    repeat (first | exact Drop.refl _ | assumption | refine Drop.upd ?_ (by assumption))
   rintro j ρ σ' ds hj ⟨rfl, H, h11, hD, g8, acc, ⟨hal, hz⟩, hG⟩
   rcases get_or_end n.kids j hj with ⟨x, hx, hltj, hdj⟩ | hj
   ·obtain ⟨m, rfl, hm⟩ := kids_nat hkd hx
    obtain ⟨cL, cB⟩ := ih m hm false
    rw [hdj, List.map_cons] at hz
    obtain ⟨a, ha⟩ : ∃ a, ρ 10 = a := ⟨_, rfl⟩
    rw [ha] at hG
    simp only [go_sem, xP, xR, xS, H, h11, g8, hltj, hx]
    cases hR : refW f.nodes ((m : Int), false) with
    | none =>
     rw [hR] at cL hz
     rw [refOr] at hz
     simp only [resL, Option.getD_none] at cL
     refine callB_use (cL) rfl ?_
     simp only [go_sem, xP, xR, xS, H, q30]
     rw [hz]
     exact ⟨.tup (.cons .nil (.cons (.refl _) .nil)), hD⟩
    | some C =>
     rw [hR] at cL hz
     simp only [resL, Option.getD_some] at cL
     have hCb := cB C hR
     have hC64 := hCb.1
     refine callB_use (cL) rfl ?_
     simp only [go_sem, xP, xR, xS, H, h11, ha]
     refine appB_sl (appT_sl el76 tk22 by22 el76 (by decide) rfl (by decide)) hD hG (one_slT C) (by simp) (by omega) (fun a' σ2 hD2 hO hG2 => ?_)
     have g8' : σ2 b8 = some (.row [int n.kind, slI n.term.coeffs, int n.term.const, slI n.kids] 4 1) := by rw [hO b8 (hG.neS g8 (by decide)) (by simp [g8]), g8]
     have hGn : Grow σ σ2 1 a' ((acc ++ C).map slT) (acc ++ C).length := by rw [List.map_append, List.length_append]; exact hG2
     have g8 := g8'
     rcases hG2 with ⟨haa, hnil, h00⟩ | ⟨ba, ca, rfl, _, _, _⟩
     ·have h0 : ¬ (64 : Int) < ((acc.length + C.length : Nat) : Int) := by omega
      have hzz := hz
      rw [refOr, if_neg (by rw [List.length_append]; omega)] at hzz
      rcases haa with rfl | rfl
      ·simp only [go_sem, xP, xR, xS, H, h0, show ((64 : Int) < 0) = False from eq_false (by decide), h11]
       exact ⟨hltj, by rw [wrap_succ _ (by omega)], hD2, g8, acc ++ C, ⟨by rw [List.length_append]; omega, hzz⟩, hGn⟩
      ·simp only [go_sem, xP, xR, xS, H, h0, show ((64 : Int) < 0) = False from eq_false (by decide), h11]
       exact ⟨hltj, by rw [wrap_succ _ (by omega)], hD2, g8, acc ++ C, ⟨by rw [List.length_append]; omega, hzz⟩, hGn⟩
     ·by_cases h64 : (64 : Int) < ((acc.length + C.length : Nat) : Int)
      ·simp only [go_sem, xP, xR, xS, H, h64, h11]
       rw [hz, refOr, if_pos (by rw [List.length_append]; omega)]
       exact ⟨.tup (.cons .nil (.cons (.refl _) .nil)), hD2⟩
      ·simp only [go_sem, xP, xR, xS, H, h64, h11]
       rw [refOr, if_neg (by rw [List.length_append]; omega)] at hz
       exact ⟨hltj, by rw [wrap_succ _ (by omega)], hD2, g8, acc ++ C, ⟨by rw [List.length_append]; omega, hz⟩, hGn⟩
   ·subst hj
    rw [List.drop_length, List.map_nil, refOr] at hz
    rw [hz]
    simp only [go_sem, xP, xR, xS, H, h11, g8, Nat.lt_irrefl]
    exact ⟨.tup (.cons (hG.retP hD).1 (.cons (.refl _) .nil)), hD⟩
  ·rw [if_neg (by decide)]
   simp only [go_sem, xP, xR, xS, n98, n98', h0, q4, q41, q42, y1, y2, y3, y4]
   have c225 := f225 (Γ := Γ) f i ih n.kids hkd (by have := (hO.form (by omega)).2.1; omega) true
   simp only [resL] at c225
   refine callB_use (c225) rfl ?_
   simp only [go_sem, xP, xR, xS]
   exact retP_drop (by repeat (first | exact Drop.refl _ | assumption | refine Drop.upd ?_ (by assumption))) (rfl)
theorem listsAt (f : Fm) (hc : ∀ n ∈ f.nodes, NdFit n) (hok : ∀ k n, f.nodes[k]? = some n → NodeOk n k f.vars) : ∀ (N i : Nat), i < N → i < f.nodes.length → ListsAt Γ f i
 | 0, _, h, _ => by omega
 | N + 1, i, hi, hil => f152 f hc (hdown hok) hok i (f.nodes[i]) (List.getElem?_eq_getElem hil) fun j hj => listsAt f hc hok N j (by omega) (by omega)
def refCases (f : Fm) : List (List Tm) × Int := match refW f.nodes (rootW f) with
 | none => ([], 30)
 | some C => if usedB f.nodes then (C, 0) else ([], 4)
set_option maxHeartbeats 1000000 in
theorem f50 (f : Fm) (hl : f.nodes.length ≤ 1000) (hc : ∀ n ∈ f.nodes, NdFit n) (hne : f.nodes ≠ []) (hok : ∀ k n, f.nodes[k]? = some n → NodeOk n k f.vars) : PCalls Tryz.prog Γ 50 [fmA f] (.tup [slC (refCases f).1, int (refCases f).2]) := by
 have hpos := List.length_pos_iff.2 hne
 have hw1 : IntKind.i64.wrap ((f.nodes.length : Int) - 1) = ((f.nodes.length - 1 : Nat) : Int) := by rw [wrap_i64 _ (by omega) (by omega)]; omega
 have hroot : rootW f = (((f.nodes.length - 1 : Nat) : Int), false) := by rw [rootW]; congr 1; omega
 have q30 : ((30 : Int) = 0) = False := eq_false (by decide)
 obtain ⟨cL, _⟩ := listsAt (Γ := Γ) f hc hok f.nodes.length (f.nodes.length - 1) (by omega) (by omega) false
 rw [← hroot] at cL
 unfold refCases
 refine pcalls (ok50 Γ) fun σ => ?_
 simp only [go_sem, xP, xR, xS, Tryz.f50, hw1]
 cases hR : refW f.nodes (rootW f) with
 | none =>
  rw [hR] at cL
  simp only [resL, Option.getD_none] at cL
  refine callB_use (cL) rfl ?_
  simp only [go_sem, xP, xR, xS, q30]
  exact ⟨.tup (.cons .nil (.cons (.refl _) .nil)), Drop.refl _⟩
 | some C =>
  rw [hR] at cL
  simp only [resL, Option.getD_some] at cL
  refine callB_use (cL) rfl ?_
  simp only [go_sem, xP, xR, xS]
  refine callB_use (f153 f hl hc hne hok) rfl ?_
  simp only [go_sem, xP, xR, xS]
  cases hU : usedB f.nodes
  ·simp only [go_sem, xP, xR, xS, hU]
   exact ⟨.tup (.cons .nil (.cons (.refl _) .nil)), Drop.refl _⟩
  ·simp only [go_sem, xP, xR, xS, hU]
theorem cases_eq {f : Fm} (h : checkE f = 0) : casesR f = refCases f := by
 obtain ⟨hne, hl200, hv0, hv8, hok⟩ := check_ok h
 have hd := hdown hok
 have hpos := List.length_pos_iff.2 hne
 have hroot : rootW f = (((f.nodes.length - 1 : Nat) : Int), false) := by rw [rootW]; congr 1; omega
 have hu := used_eq hd hok hne
 have hr := ref_cas hd hok f.nodes.length (f.nodes.length - 1) false _ (by omega) (List.getElem?_eq_getElem (by omega))
 have e : ((f.nodes.length : Int) - 1, false) = rootW f := rfl
 rw [e] at hu
 rw [← hroot] at hr
 rw [casesR, if_pos h, refCases, hr, hu]
 cases badW f.nodes (rootW f)
 ·cases larW f.nodes (rootW f) <;> rfl
 ·rfl
theorem Drop.row {σ σ' : Sig} {b : Nat} {x : Blk} (h : Drop σ' σ) (hb : σ b = some x) : σ' b = some x := by
 rcases h b with h | h
 ·rw [hb] at h; cases h
 ·rw [← h]; exact hb
theorem onesI (l : List Int) : (ints l).all AV.one = true := by
 induction l with
 | nil => rfl
 | cons t l ih => rw [ints, List.map_cons, List.all_cons]; exact ih
theorem f167o (x : Nd) (hx : NdFit x) {σ : Sig} {K : AV → Sig → Prop} (hK : ∀ a σ', Drop σ' σ → Grow σ σ' 1 a (ints x.kids) x.kids.length → K (.agg [int x.kind, slI x.term.coeffs, int x.term.const, a]) σ') : ACalls Tryz.prog Γ 167 [ndA x] σ K := by
 have hx1 := hx.1
 have hx2 := hx.2
 refine acalls (ok167 Γ) ?_
 simp only [go_sem, xP, xR, xS, Tryz.f167]
 intro b hb
 simp only [go_sem, xP, xR, xS]
 refine dcallB_use (f117 x.term hx1) rfl ?_
 simp only [go_sem, xP, xR, xS]
 refine appB_sl (appT_sl el46 tk3 by3 el46 (by decide) rfl (by decide)) ((Drop.refl σ).upd hb) (Grow.e0 σ _ 1) (onesI _) (by simp [ints]) (by omega) (fun a' σ2 hD2 hO hG2 => ?_)
 have hc2 := hG2.cellsX
 have ho2 := hG2.oneX
 have e2 : σ2 b = some (.row [int 0, .v (.slice none 0 0), int 0, .v (.slice none 0 0)] 4 1) := by
  rw [hO b (fun s o m e => by cases e) (by simp [upd])]; simp [upd, int]
 simp only [go_sem, xP, xR, xS, hc2, ho2, e2]
 exact hK a' _ (hD2.upd hb) (by have := hG2.updW (hG2.neS e2 (by decide)) (some (.row [int x.kind, slI x.term.coeffs, int x.term.const, a'] 4 1)); simp only [List.nil_append, Nat.zero_add] at this; exact this)
theorem f167 (x : Nd) (hx : NdFit x) : PCalls Tryz.prog Γ 167 [ndA x] (ndA x) := by
 have hx1 := hx.1
 have hx2 := hx.2
 refine pcalls (ok167 Γ) fun σ => ?_
 simp only [go_sem, xP, xR, xS, Tryz.f167]
 intro b hb
 simp only [go_sem, xP, xR, xS]
 refine dcallB_use (f117 x.term hx1) rfl ?_
 simp only [go_sem, xP, xR, xS]
 refine appB_sl (appT_sl el46 tk3 by3 el46 (by decide) rfl (by decide)) ((Drop.refl σ).upd hb) (Grow.e0 σ _ 1) (onesI _) (by simp [ints]) (by omega) (fun a' σ2 hD2 hO hG2 => ?_)
 have hc2 := hG2.cellsX
 have ho2 := hG2.oneX
 have e2 : σ2 b = some (.row [int 0, .v (.slice none 0 0), int 0, .v (.slice none 0 0)] 4 1) := by
  rw [hO b (fun s o m e => by cases e) (by simp [upd])]; simp [upd, int]
 simp only [go_sem, xP, xR, xS, hc2, ho2, e2]
 have hG := hG2.updW (hG2.neS e2 (by decide)) (some (.row [int x.kind, slI x.term.coeffs, int x.term.const, a'] 4 1))
 simp only [List.nil_append, Nat.zero_add] at hG
 exact ⟨.agg (.cons (.refl _) (.cons (.refl _) (.cons (.refl _) (.cons (hG.retP (hD2.upd hb)).1 .nil)))), hD2.upd hb⟩
theorem f166o (f : Fm) (hl : f.nodes.length ≤ 1000000) (hc : ∀ n ∈ f.nodes, NdFit n) {σ : Sig} {K : AV → Sig → Prop} (hK : ∀ a σ', Drop σ' σ → Grow σ σ' 4 a (f.nodes.flatMap ndC) f.nodes.length → K (.agg [int f.vars, a]) σ') : ACalls Tryz.prog Γ 166 [fmA f] σ K := by
 refine acalls (ok166 Γ) ?_
 simp only [go_sem, xP, xR, xS, Tryz.f166]
 intro b2 hb2
 simp only [go_sem, xP, xR, xS]
 intro bo hbo
 obtain ⟨hne, hbo⟩ := un hbo
 have hne' : ¬ b2 = bo := fun e => hne e.symm
 simp only [go_sem, xP, xR, xS, hne, hne']
 refine SemC.loopK mixed f.nodes.length (fun k ρ σ' ds => (ds = [] ∧ ρ 1 = .pp (fmC f) 0 ∧ ρ 2 = .v (.pointer (some ⟨b2, 0, none⟩)) ∧ ρ 3 = .v (.pointer (some ⟨bo, 0, none⟩)) ∧ ρ 4 = int k ∧ σ' b2 = some (.row [int 0, .v (.slice none 0 0)] 2 1)) ∧ Drop σ' σ ∧
  ∃ a, σ' bo = some (.row [int f.vars, a] 2 1) ∧ Grow σ σ' 4 a ((f.nodes.take k).flatMap ndC) k) (by kernel_rfl) ⟨by simp only [go_sem, xP, xR, xS, hne, hne'], by repeat (first | exact Drop.refl _ | assumption | refine Drop.upd ?_ (by assumption)), _, by simp only [go_sem, xP, xR, xS], .nil _ _ _⟩ ?_
 rintro k ρ σ' ds hk ⟨⟨rfl, h1, h2, h3, h4, hs2⟩, hD, a, hso, hG⟩
 rcases get_or_end f.nodes k hk with ⟨x, hx, hlt, hd⟩ | hk
 ·simp only [go_sem, xP, xR, xS, h1, h2, h3, h4, hlt, ↓nd_part hx, hso]
  refine dcallB_use (f167 x (hc x (mem_of_get hx))) rfl ?_
  simp only [go_sem, xP, xR, xS, h1, h2, h3, h4, hso]
  refine appB_sl (appT_sl el58 tk138 by138 el58 (by decide) rfl (by decide)) hD hG rfl rfl (by omega) (fun a' σ2 hD2 hO hG2 => ?_)
  have e2 : σ2 b2 = some (.row [int 0, .v (.slice none 0 0)] 2 1) := by
   rw [hO b2 (hG.neS hs2 (by decide)) (by simp [hs2]), hs2]
  have eo : σ2 bo = some (.row [int f.vars, a] 2 1) := by
   rw [hO bo (hG.neS hso (by decide)) (by simp [hso]), hso]
  have hc2 := hG2.cellsX
  have ho2 := hG2.oneX
  simp only [go_sem, xP, xR, xS, h1, h2, h3, h4, e2, eo, hc2, ho2, hne', hlt]
  refine ⟨by rw [wrap_succ _ (by omega)], hD2.upd hbo, a', by simp only [go_sem, xP, xR, xS, upd_same], ?_⟩
  rw [take_succ hx, List.flatMap_append]
  have := hG2.updW (hG2.neS eo (by decide)) (some (.row [int f.vars, a'] 2 1))
  simpa [ndC, slI, int] using this
 ·subst hk
  have ho := hG.oneX
  rw [List.take_length] at hG
  simp only [go_sem, xP, xR, xS, h1, h2, h3, h4, Nat.lt_irrefl, hs2, hso, hne, ho]
  exact hK a _ (hD.upd hb2) (hG.updW (hG.neS hs2 (by decide)) _)
end Go.AL
