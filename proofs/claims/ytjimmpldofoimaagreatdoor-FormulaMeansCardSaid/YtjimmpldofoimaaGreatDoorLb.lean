/- The reference's cases, told plainly, and that they are the library's. -/
import Derived.Test.YtjimmpldofoimaaGreatDoorXe
import Derived.Test.YtjimmpldofoimaaGreatDoorXh
import Derived.Test.YtjimmpldofoimaaGreatDoorXk
set_option linter.unusedVariables false
set_option linter.unusedSimpArgs false
namespace Go.AL
/-! ### The lists of the reference -/
def atomR (n : Nd) (b : Bool) : List (List Tm) :=
  if n.kind = 0 then [[if b then timesT n.term (-1) (-1) else n.term]]
  else if b then [[timesT n.term 1 (-1)], [timesT n.term (-1) (-1)]] else [[n.term, timesT n.term (-1) 0]]
/-! ### What the loops come to, once the kids are known -/
/-! ### Terms -/
theorem wrap_wrap' (n : Int) : IntKind.i64.wrap (IntKind.i64.wrap n) = IntKind.i64.wrap n := by
  rw [IntKind.wrap_i64, IntKind.wrap_i64]; omega
theorem opp_timesN (t : Tm) (c : Int) : oppT t c = timesT t (-1) c := by
  have h : ∀ l : List Int, plusC (-1) (List.replicate l.length 0) l = l.map fun x => IntKind.i64.wrap (-1 * x) := by
    intro l
    induction l with
    | nil => rfl
    | cons x l ih => rw [List.length_cons, List.replicate_succ, plusC, ih, List.map_cons, Int.zero_add, wrap_wrap']
  rw [oppT, plusT, timesT, h, Int.add_comm]
theorem wrap_zero' : IntKind.i64.wrap (-1 * 0) = 0 := by decide
theorem less_opp (t : Tm) (c : Int) : lessT (oppT t c) 0 = oppT t c := by
  rw [lessT, plusT, plusC_nil]
  simp only [wrap_zero', Int.add_zero]
  rw [oppT, plusT]
  simp only [wrap_wrap']
theorem range_ok {t : Tm} {v : Int} (h : checkTermE t v = 0) : numbersE t = 0 := (firstE_zero _).1 h (numbersE t) (by simp)
theorem num_bd {t : Tm} (h : numbersE t = 0) : (∀ x ∈ t.coeffs, -1000000 ≤ x ∧ x ≤ 1000000) ∧ -1000000000000 ≤ t.const ∧ t.const ≤ 1000000000000 := by
  have hw : ∀ {n lo hi : Int}, withinE n lo hi = 0 → lo ≤ n ∧ n ≤ hi := fun {n lo hi} h => by
    unfold withinE at h
    split at h
    · cases h
    · omega
  have h0 := (firstE_zero _).1 h
  have h1 := (firstE_zero _).1 (h0 _ (List.mem_cons_self ..))
  exact ⟨fun x hx => hw (h1 _ (List.mem_map_of_mem hx)), hw (h0 _ (by simp))⟩
theorem less_zero {t : Tm} (h : numbersE t = 0) : lessT t 0 = t := by
  obtain ⟨_, h2, h3⟩ := num_bd h
  rw [lessT, plusT, plusC_nil]
  simp only [wrap_zero', Int.add_zero]
  rw [wrap_i64 _ (by omega) (by omega)]
theorem less_times {t : Tm} (h : numbersE t = 0) : lessT t 1 = timesT t 1 (-1) := by
  obtain ⟨h1, h2, h3⟩ := num_bd h
  have e : t.coeffs.map (fun x => IntKind.i64.wrap (1 * x)) = t.coeffs := by
    have : t.coeffs.map (fun x => IntKind.i64.wrap (1 * x)) = t.coeffs.map id := List.map_congr_left fun x hx => by
      have := h1 x hx
      rw [Int.one_mul, wrap_i64 _ (by omega) (by omega)]; rfl
    rw [this, List.map_id]
  have e1 : IntKind.i64.wrap (-1 * 1) = -1 := by decide
  rw [lessT, plusT, plusC_nil, timesT, e]
  simp only [e1, Int.one_mul]
  rw [wrap_i64 t.const (by omega) (by omega)]
theorem atom_eq {n : Nd} {i : Nat} {vars : Int} (h : NodeOk n i vars) (hk : n.kind = 0 ∨ n.kind = 1) (b : Bool) (S : List (List (List Tm))) : mkC (kindW n b) b n.term S = atomR n b := by
  have hN := range_ok (h.term (by omega)).1
  have hw : kindW n b = n.kind := by unfold kindW; rw [if_neg (by omega)]
  rw [hw, atomR]
  rcases hk with hk | hk
  · rw [if_pos hk, mkC, if_pos hk]
    cases b
    · simp only [Bool.false_eq_true, if_false]; rw [less_zero hN]
    · simp only [if_true]; rw [less_opp, opp_timesN]
  · rw [if_neg (by omega), mkC, if_neg (by omega), if_pos hk]
    cases b
    · simp only [Bool.false_eq_true, if_false]; rw [less_zero hN, opp_timesN]
    · simp only [if_true]; rw [less_times hN, opp_timesN]
/-! ### The lists of the reference are the library's -/
/-! ### Which ways are used -/
def hit (l : List Nd) (M : List Bool × List Bool) (j : Nat) : Prop := ((M.1[j]?).getD false = true ∧ larW l ((j : Int), false) = true) ∨ ((M.2[j]?).getD false = true ∧ larW l ((j : Int), true) = true)
theorem larT_eq (t : Tm) : larT t = !inRangeB t := by
  unfold larT largeE
  rw [numbers_eq]
  cases inRangeB t <;> simp [whenE]
theorem in_range {t : Tm} (h : numbersE t = 0) : inRangeB t = true := by
  rw [numbers_eq] at h
  cases hb : inRangeB t
  · rw [hb] at h; simp [whenE] at h
  · rfl
theorem mem_fold {u : Tm} : ∀ (S : List (List (List Tm))) (A : List (List Tm)) (x : List Tm), x ∈ S.foldl prodC A → u ∈ x → (∃ y ∈ A, u ∈ y) ∨ ∃ C ∈ S, ∃ y ∈ C, u ∈ y
  | [], A, x, hx, hu => .inl ⟨x, hx, hu⟩
  | C :: S, A, x, hx, hu => by
    rcases mem_fold S (prodC A C) x hx hu with ⟨y, hy, hu⟩ | ⟨D, hD, y, hy, hu⟩
    · rw [prodC] at hy
      obtain ⟨a, ha, hy⟩ := List.mem_flatMap.1 hy
      obtain ⟨c, hc, rfl⟩ := List.mem_map.1 hy
      rcases List.mem_append.1 hu with hu | hu
      · exact .inl ⟨a, ha, hu⟩
      · exact .inr ⟨C, by simp, c, hc, hu⟩
    · exact .inr ⟨D, List.mem_cons_of_mem _ hD, y, hy, hu⟩
theorem mem_mk {k : Int} {b : Bool} {t u : Tm} {S : List (List (List Tm))} (hk : k = 2 ∨ k = 3 ∨ k = 4) {x : List Tm} (hx : x ∈ mkC k b t S) (hu : u ∈ x) : ∃ C ∈ S, ∃ y ∈ C, u ∈ y := by
  rcases hk with rfl | rfl | rfl
  · have e : mkC 2 b t S = S.getLastD [] := rfl
    rw [e] at hx
    cases S with
    | nil => simp at hx
    | cons C S =>
      rw [List.getLastD_cons] at hx
      refine ⟨_, ?_, x, hx, hu⟩
      have := List.getLast_mem (l := C :: S) (by simp)
      rwa [List.getLast_eq_getLastD] at this
  · have e : mkC 3 b t S = if S.any (fun x => decide (x.length = 0)) then [] else S.foldl prodC [[]] := rfl
    rw [e] at hx
    split at hx
    · cases hx
    · rcases mem_fold S [[]] x hx hu with ⟨y, hy, hu⟩ | h
      · simp at hy; subst hy; cases hu
      · exact h
  · have e : mkC 4 b t S = S.flatten := rfl
    rw [e] at hx
    obtain ⟨C, hC, hx⟩ := List.mem_flatten.1 hx
    exact ⟨C, hC, x, hx, hu⟩
theorem larC_iff {C : List (List Tm)} : larC C = true ↔ ∃ x ∈ C, ∃ u ∈ x, larT u = true := by
  unfold larC
  rw [List.any_eq_true]
  constructor
  · rintro ⟨u, hu, h⟩
    obtain ⟨x, hx, hu⟩ := List.mem_flatten.1 hu
    exact ⟨x, hx, u, hu, h⟩
  · rintro ⟨x, hx, u, hu, h⟩
    exact ⟨u, List.mem_flatten.2 ⟨x, hx, hu⟩, h⟩
end Go.AL

/- What the cases mean: a node holds exactly if all terms of one of its cases are at least 0. -/
set_option linter.unusedVariables false
set_option linter.unusedSimpArgs false
namespace Go.AL
/-! ### Exact values -/
def dotZ : List Int → List Int → Int
  | c :: cs, v :: vs => c * v + dotZ cs vs
  | _, _ => 0
def valZ (t : Tm) (vs : List Int) : Int := t.const + dotZ t.coeffs vs
def ValZ (vs : List Int) : Prop := ∀ v ∈ vs, -4294967295 ≤ v ∧ v ≤ 4294967295
def CsZ (cs : List Int) : Prop := ∀ c ∈ cs, -1000000 ≤ c ∧ c ≤ 1000000
theorem mul_bdZ {c h : Int} (hc : -1000000 ≤ c ∧ c ≤ 1000000) (hh : -4294967295 ≤ h ∧ h ≤ 4294967295) : -4294967295000000 ≤ c * h ∧ c * h ≤ 4294967295000000 := by
  have h1 : (c * h).natAbs ≤ 1000000 * 4294967295 := by
    rw [Int.natAbs_mul]
    exact Nat.mul_le_mul (by omega) (by omega)
  omega
theorem valueF_Z : ∀ (cs vs : List Int) (n B : Int), -B ≤ n → n ≤ B → B + cs.length * 4294967295000000 ≤ 9000000000000000000 → CsZ cs → ValZ vs → valueF cs vs n = n + dotZ cs vs
  | [], _, n, _, _, _, _, _, _ => by simp [valueF, dotZ]
  | _ :: _, [], n, _, _, _, _, _, _ => by simp [valueF, dotZ]
  | c :: cs, v :: vs, n, B, h1, h2, hB, hc, hv => by
    have hcc := hc c List.mem_cons_self
    have hvv := hv v List.mem_cons_self
    have hp := mul_bdZ hcc hvv
    simp only [List.length_cons] at hB
    rw [valueF, dotZ, wrap_i64 (c * v) (by omega) (by omega), wrap_i64 (n + c * v) (by omega) (by omega)]
    rw [valueF_Z cs vs (n + c * v) (B + 4294967295000000) (by omega) (by omega) (by omega) (fun x hx => hc x (List.mem_cons_of_mem _ hx)) (fun x hx => hv x (List.mem_cons_of_mem _ hx))]
    omega
/-- A term whose numbers are near their ranges. -/
def Near (t : Tm) : Prop := t.coeffs.length ≤ 8 ∧ CsZ t.coeffs ∧ -2000000000000 ≤ t.const ∧ t.const ≤ 2000000000000
theorem Near.val {t : Tm} (h : Near t) {vs : List Int} (hv : ValZ vs) : valueR t vs = valZ t vs := by
  obtain ⟨h1, h2, h3, h4⟩ := h
  exact valueF_Z t.coeffs vs t.const 2000000000000 (by omega) h4 (by omega) h2 hv
theorem Near.opp {t : Tm} (h : Near t) {c : Int} (h1 : -3 ≤ c) (h2 : c ≤ 3) (hb : -1000000000000 ≤ t.const ∧ t.const ≤ 1000000000000) : oppT t c = ⟨t.coeffs.map fun x => -x, c - t.const⟩ ∧ Near (oppT t c) := by
  obtain ⟨g1, g2, g3, g4⟩ := h
  have e : oppT t c = ⟨t.coeffs.map fun x => -x, c - t.const⟩ := by
    rw [opp_timesN, timesT]
    have e1 : t.coeffs.map (fun x => IntKind.i64.wrap (-1 * x)) = t.coeffs.map fun x => -x := List.map_congr_left fun x hx => by
      have := g2 x hx
      rw [wrap_i64 _ (by omega) (by omega)]; omega
    rw [e1, wrap_i64 (-1 * t.const) (by omega) (by omega), wrap_i64 _ (by omega) (by omega)]
    congr 1
    omega
  refine ⟨e, ?_⟩
  rw [e]
  refine ⟨by simpa using g1, fun x hx => ?_, by show -2000000000000 ≤ c - t.const; omega, by show c - t.const ≤ 2000000000000; omega⟩
  simp only at hx
  obtain ⟨y, hy, rfl⟩ := List.mem_map.1 hx
  have := g2 y hy
  omega
theorem dot_neg : ∀ (cs vs : List Int), dotZ (cs.map fun x => -x) vs = -dotZ cs vs
  | [], _ => rfl
  | _ :: _, [] => rfl
  | c :: cs, v :: vs => by
    rw [List.map_cons, dotZ, dotZ, dot_neg cs vs, Int.neg_mul]
    omega
theorem Near.less {t : Tm} (h : Near t) {c : Int} (h1 : -3 ≤ c) (h2 : c ≤ 3) (hb : -1100000000000 ≤ t.const ∧ t.const ≤ 1100000000000) : lessT t c = ⟨t.coeffs, t.const - c⟩ ∧ Near (lessT t c) := by
  obtain ⟨g1, g2, g3, g4⟩ := h
  have e : lessT t c = ⟨t.coeffs, t.const - c⟩ := by
    rw [lessT, plusT, plusC_nil]
    simp only
    rw [wrap_i64 (-1 * c) (by omega) (by omega), wrap_i64 _ (by omega) (by omega)]
    congr 1
    omega
  refine ⟨e, ?_⟩
  rw [e]
  exact ⟨g1, g2, by show -2000000000000 ≤ t.const - c; omega, by show t.const - c ≤ 2000000000000; omega⟩
theorem near_of {t : Tm} (hl : t.coeffs.length ≤ 8) (h : numbersE t = 0) : Near t := by
  obtain ⟨h1, h2, h3⟩ := num_bd h
  exact ⟨hl, h1, by omega, by omega⟩
theorem value_opp {t : Tm} (hl : t.coeffs.length ≤ 8) (h : numbersE t = 0) {c : Int} (h1 : -3 ≤ c) (h2 : c ≤ 3) {vs : List Int} (hv : ValZ vs) : valueR (oppT t c) vs = c - valZ t vs := by
  obtain ⟨e, hn⟩ := (near_of hl h).opp h1 h2 (num_bd h).2
  rw [hn.val hv, e, valZ, valZ, dot_neg]
  simp only
  omega
theorem value_less {t : Tm} (hl : t.coeffs.length ≤ 8) (h : numbersE t = 0) {c : Int} (h1 : -3 ≤ c) (h2 : c ≤ 3) {vs : List Int} (hv : ValZ vs) : valueR (lessT t c) vs = valZ t vs - c := by
  have := (num_bd h).2
  obtain ⟨e, hn⟩ := (near_of hl h).less h1 h2 (by omega)
  rw [hn.val hv, e, valZ, valZ]
  simp only
  omega
/-! ### Truths -/
theorem truth_app (vs : List Int) : ∀ (a b : List Nd) (acc : List Bool), truthF vs (a ++ b) acc = truthF vs b (truthF vs a acc)
  | [], _, _ => rfl
  | n :: a, b, acc => by rw [List.cons_append, truthF, truthF, truth_app vs a]
theorem truth_pre (vs : List Int) : ∀ (l : List Nd) (acc : List Bool), acc <+: truthF vs l acc
  | [], acc => List.prefix_refl _
  | n :: l, acc => by
    rw [truthF]
    exact List.IsPrefix.trans (List.prefix_append _ _) (truth_pre vs l _)
theorem kids_pre {acc acc' : List Bool} (h : acc <+: acc') {kids : List Int} (hk : ∀ k ∈ kids, 0 ≤ k ∧ k < (acc.length : Int)) : kidsB acc kids = kidsB acc' kids := by
  unfold kidsB
  refine List.map_congr_left fun k hx => ?_
  have := hk k hx
  obtain ⟨t, rfl⟩ := h
  rw [List.getElem?_append_left (by omega)]
theorem node_pre {vs : List Int} {acc acc' : List Bool} (h : acc <+: acc') {n : Nd} {i : Nat} {vars : Int} (hok : NodeOk n i vars) (hi : i ≤ acc.length) : nodeB vs acc n = nodeB vs acc' n := by
  by_cases h1 : n.kind ≤ 1
  · have := hok.lo
    unfold nodeB
    by_cases h0 : n.kind = 0
    · rw [if_pos h0, if_pos h0]
    · rw [if_neg h0, if_neg h0, if_pos (by omega), if_pos (by omega)]
  · have hk := (hok.form (by omega)).2.2.2
    unfold nodeB
    rw [kids_pre h fun k hx => by have := hk k hx; omega]
def trues (vs : List Int) (l : List Nd) : List Bool := truthF vs l []
theorem true_get {vs : List Int} {l : List Nd} {vars : Int} (hok : ∀ k n, l[k]? = some n → NodeOk n k vars) {i : Nat} {n : Nd} (hn : l[i]? = some n) : (trues vs l)[i]? = some (nodeB vs (trues vs l) n) := by
  have hi := lt_of_getElem? hn
  have e : l = l.take i ++ n :: l.drop (i + 1) := by
    rw [← drop_of_get hn, List.take_append_drop]
  have hlen : (truthF vs (l.take i) []).length = i := by rw [truthF_len]; simp; omega
  have e2 : trues vs l = truthF vs (l.drop (i + 1)) (truthF vs (l.take i) [] ++ [nodeB vs (truthF vs (l.take i) []) n]) := by
    rw [trues]
    conv => lhs; rw [e]
    rw [truth_app, truthF]
  have hp := truth_pre vs (l.drop (i + 1)) (truthF vs (l.take i) [] ++ [nodeB vs (truthF vs (l.take i) []) n])
  rw [← e2] at hp
  have hp2 : truthF vs (l.take i) [] <+: trues vs l := List.IsPrefix.trans (List.prefix_append _ _) hp
  rw [← node_pre hp2 (hok i n hn) (by omega)]
  obtain ⟨t, ht⟩ := hp
  rw [← ht, List.getElem?_append_left (by simp [hlen]), List.getElem?_append_right (by omega), hlen]
  simp
theorem any_congrZ {α : Type} {l : List α} {f g : α → Bool} (h : ∀ x ∈ l, f x = g x) : l.any f = l.any g := by
  induction l with
  | nil => rfl
  | cons x l ih => rw [List.any_cons, List.any_cons, h x (by simp), ih fun y hy => h y (List.mem_cons_of_mem _ hy)]
theorem all_congrZ {α : Type} {l : List α} {f g : α → Bool} (h : ∀ x ∈ l, f x = g x) : l.all f = l.all g := by
  induction l with
  | nil => rfl
  | cons x l ih => rw [List.all_cons, List.all_cons, h x (by simp), ih fun y hy => h y (List.mem_cons_of_mem _ hy)]
def allP (vs : List Int) (c : List Tm) : Bool := c.all fun t => decide (0 ≤ valueR t vs)
def anyP (vs : List Int) (C : List (List Tm)) : Bool := C.any (allP vs)
theorem any_prod (vs : List Int) (A B : List (List Tm)) : anyP vs (prodC A B) = (anyP vs A && anyP vs B) := by
  unfold anyP prodC
  rw [List.any_flatMap]
  induction A with
  | nil => simp
  | cons x A ih =>
    rw [List.any_cons, List.any_cons, ih, List.any_map]
    have : (allP vs ∘ fun y => x ++ y) = fun y => (allP vs x && allP vs y) := by
      funext y
      simp [allP, List.all_append]
    rw [this]
    cases h : allP vs x
    · simp
    · simp only [Bool.true_and, Bool.true_or]
      cases h2 : B.any (allP vs)
      · simp
      · simp
theorem any_fold (vs : List Int) : ∀ (S : List (List (List Tm))) (A : List (List Tm)), anyP vs (S.foldl prodC A) = (anyP vs A && S.all (anyP vs))
  | [], A => by simp
  | C :: S, A => by rw [List.foldl_cons, any_fold vs S, any_prod, List.all_cons, Bool.and_assoc]
theorem any_flat (vs : List Int) : ∀ (S : List (List (List Tm))), anyP vs S.flatten = S.any (anyP vs)
  | [] => rfl
  | C :: S => by
    have := any_flat vs S
    unfold anyP at this ⊢
    rw [List.flatten_cons, List.any_append, List.any_cons, this]
/-- The truth of a kid, turned or not. -/
def tr (vs : List Int) (l : List Nd) (x : Int) : Bool := ((trues vs l)[x.toNat]?).getD false
theorem cas_means {vs : List Int} (hv : ValZ vs) {l : List Nd} {vars : Int} (h8 : vars ≤ 8) (hd : KidsDown l) (hok : ∀ k n, l[k]? = some n → NodeOk n k vars) : ∀ (N i : Nat) (b : Bool) (n : Nd), i < N → l[i]? = some n →
    anyP vs (casW l ((i : Int), b)) = (tr vs l i != b)
  | 0, _, _, _, h, _ => by omega
  | N + 1, i, b, n, hi, hn => by
    have hkid : ∀ c, ∀ x ∈ n.kids, anyP vs (casW l (x, c)) = (tr vs l x != c) := fun c x hx => by
      have hxr := hd i n hn x hx
      obtain ⟨j, rfl⟩ := Int.eq_ofNat_of_zero_le hxr.1
      obtain ⟨nc, hnc⟩ : ∃ nc, l[j]? = some nc := ⟨l[j]'(by have := lt_of_getElem? hn; omega), List.getElem?_eq_getElem _⟩
      exact cas_means hv h8 hd hok N j c nc (by omega) hnc
    have hO := hok i n hn
    have hlo := hO.lo
    have hhi := hO.hi
    have ht : tr vs l i = nodeB vs (trues vs l) n := by
      unfold tr
      rw [Int.toNat_natCast, true_get hok hn]
      rfl
    rw [casW_eq hd hn, ht]
    by_cases h1 : n.kind ≤ 1
    · obtain ⟨hc, hlen, hk⟩ := hO.term h1
      have hN := range_ok hc
      have hl : n.term.coeffs.length ≤ 8 := by omega
      have hw : kindW n b = n.kind := by unfold kindW; rw [if_neg (by omega)]
      have hval : valueR n.term vs = valZ n.term vs := (near_of hl hN).val hv
      have v0 := value_less hl hN (c := 0) (by omega) (by omega) hv
      have v1 := value_less hl hN (c := 1) (by omega) (by omega) hv
      have o0 := value_opp hl hN (c := 0) (by omega) (by omega) hv
      have o1 := value_opp hl hN (c := -1) (by omega) (by omega) hv
      have lo := less_opp n.term (-1)
      rw [hw]
      unfold nodeB
      rcases (show n.kind = 0 ∨ n.kind = 1 by omega) with h | h
      · rw [if_pos h, mkC, if_pos h]
        cases b
        · simp only [Bool.false_eq_true, if_false, anyP, allP, List.any_cons, List.any_nil, List.all_cons, List.all_nil, Bool.and_true, Bool.or_false, v0, hval, Int.sub_zero, Bool.bne_false]
        · simp only [if_true, anyP, allP, List.any_cons, List.any_nil, List.all_cons, List.all_nil, Bool.and_true, Bool.or_false, lo, o1, hval, Bool.bne_true]
          rw [← decide_not]
          exact decide_eq_decide.2 (by omega)
      · rw [if_neg (by omega), if_pos h, mkC, if_neg (by omega), if_pos h]
        cases b
        · simp only [Bool.false_eq_true, if_false, anyP, allP, List.any_cons, List.any_nil, List.all_cons, List.all_nil, Bool.and_true, Bool.or_false, v0, o0, hval, Bool.bne_false]
          rw [← Bool.decide_and]
          exact decide_eq_decide.2 (by omega)
        · simp only [if_true, anyP, allP, List.any_cons, List.any_nil, List.all_cons, List.all_nil, Bool.and_true, Bool.or_false, v1, o1, hval, Bool.bne_true]
          rw [← Bool.decide_or, ← decide_not]
          exact decide_eq_decide.2 (by omega)
    · have hk0 : ¬ n.kind = 0 := by omega
      have hk1 : ¬ n.kind = 1 := by omega
      have hkb : kidsB (trues vs l) n.kids = n.kids.map (tr vs l) := rfl
      unfold nodeB
      rw [if_neg hk0, if_neg hk1, hkb]
      by_cases h2 : n.kind = 2
      · obtain ⟨x, hx⟩ := List.length_eq_one_iff.1 ((hO.form (by omega)).2.2.1 h2)
        have hw : kindW n b = 2 := by unfold kindW; rw [if_neg (by omega)]; exact h2
        have e : mkC 2 b n.term (subW l n b) = casW l (x, b != decide (n.kind = 2)) := by rw [subW, hx]; rfl
        rw [if_pos h2, hw, e, hkid _ x (by simp [hx]), hx, h2]
        simp only [List.map_cons, List.headD_cons, decide_true]
        cases tr vs l x <;> cases b <;> rfl
      · have hsub : ∀ c : Bool, subW l n b = n.kids.map fun x => casW l (x, b) := fun _ => by
          unfold subW
          refine List.map_congr_left fun x _ => ?_
          rw [decide_eq_false h2, Bool.bne_false]
        rw [if_neg h2]
        have hany : (subW l n b).any (anyP vs) = n.kids.any fun x => tr vs l x != b := by
          rw [hsub true, List.any_map]
          refine any_congrZ ?_
          intro x hx
          exact hkid b x hx
        have hall : (subW l n b).all (anyP vs) = n.kids.all fun x => tr vs l x != b := by
          rw [hsub true, List.all_map]
          refine all_congrZ ?_
          intro x hx
          exact hkid b x hx
        have m3 : anyP vs (mkC 3 b n.term (subW l n b)) = (subW l n b).all (anyP vs) := by
          have e : mkC 3 b n.term (subW l n b) = if (subW l n b).any (fun x => decide (x.length = 0)) then [] else (subW l n b).foldl prodC [[]] := rfl
          rw [e]
          split
          · rename_i h
            obtain ⟨C, hC, h0⟩ := List.any_eq_true.1 h
            have : C = [] := List.eq_nil_of_length_eq_zero (by simpa using h0)
            subst this
            have : (subW l n b).all (anyP vs) = false := List.all_eq_false.2 ⟨[], hC, by simp [anyP]⟩
            rw [this]; rfl
          · rw [any_fold]; rfl
        have m4 : anyP vs (mkC 4 b n.term (subW l n b)) = (subW l n b).any (anyP vs) := any_flat vs _
        have any_t : ∀ L : List Bool, (L.any fun b => true == b) = L.any id := fun L => by congr 1; funext b; cases b <;> rfl
        have any_f : ∀ L : List Bool, (L.any fun b => false == b) = !L.all id := fun L => by
          induction L with
          | nil => rfl
          | cons a L ih => rw [List.any_cons, List.all_cons, ih]; cases a <;> simp
        by_cases h3 : n.kind = 3
        · rw [if_pos h3, any_f, Bool.not_not, List.all_map]
          cases b
          · have hw : kindW n false = 3 := by unfold kindW; rw [if_neg (by simp)]; exact h3
            rw [hw, m3, hall]
            simp only [Bool.bne_false]
            rfl
          · have hw : kindW n true = 4 := by unfold kindW; rw [if_pos ⟨rfl, .inl h3⟩]; omega
            rw [hw, m4, hany]
            simp only [Bool.bne_true]
            rw [List.not_all_eq_any_not]
            rfl
        · rw [if_neg h3, any_t, List.any_map]
          have h4 : n.kind = 4 := by omega
          cases b
          · have hw : kindW n false = 4 := by unfold kindW; rw [if_neg (by simp)]; exact h4
            rw [hw, m4, hany]
            simp only [Bool.bne_false]
            rfl
          · have hw : kindW n true = 3 := by unfold kindW; rw [if_pos ⟨rfl, .inr h4⟩]; omega
            rw [hw, m3, hall]
            simp only [Bool.bne_true]
            rw [List.not_any_eq_all_not]
            rfl
end Go.AL

/- Formulas joined, and turned: they are right, and what they mean. -/
set_option linter.unusedVariables false
set_option linter.unusedSimpArgs false
namespace Go.AL
open Go.Proofs
theorem node_of {n : Nd} {i : Nat} {vars : Int} (h : NodeOk n i vars) : nodeE n i vars = 0 := by
  have hlo := h.lo
  have hhi := h.hi
  unfold nodeE
  rw [if_neg (by omega)]
  by_cases h1 : n.kind ≤ 1
  · obtain ⟨a, _, c⟩ := h.term h1
    rw [if_pos h1]
    refine (firstE_zero _).2 fun x hx => ?_
    simp only [List.mem_cons, List.not_mem_nil, or_false] at hx
    rcases hx with rfl | rfl
    · exact a
    · rw [c]; rfl
  · obtain ⟨a, b, c, d⟩ := h.form (by omega)
    rw [if_neg h1]
    refine (firstE_zero _).2 fun x hx => ?_
    simp only [List.mem_cons, List.not_mem_nil, or_false] at hx
    rcases hx with rfl | rfl
    · refine (firstE_zero _).2 fun x hx => ?_
      simp only [List.mem_cons, List.not_mem_nil, or_false] at hx
      rcases hx with rfl | rfl | rfl
      · rw [a]; rfl
      · rw [whenE, if_neg]; simp; omega
      · rw [whenE, if_neg]
        simp only [Bool.and_eq_true, decide_eq_true_eq, Bool.not_eq_true', decide_eq_false_iff_not, not_and, Classical.not_not]
        intro h2
        have := c h2
        omega
    · refine (firstE_zero _).2 fun x hx => ?_
      obtain ⟨k, hk, rfl⟩ := List.mem_map.1 hx
      have := d k hk
      rw [earlierE, whenE, if_neg]
      simp
      omega
theorem nodes_of {vars : Int} : ∀ (l : List Nd) (k : Nat), (∀ i n, l[i]? = some n → NodeOk n (k + i) vars) → nodesE vars k l = 0
  | [], _, _ => rfl
  | n :: l, k, h => by
    have h0 := node_of (h 0 n rfl)
    rw [nodesE, if_pos (by simpa using h0)]
    exact nodes_of l (k + 1) fun i m hm => by
      have := h (i + 1) m (by simpa using hm)
      rwa [show k + 1 + i = k + (i + 1) by omega]
theorem check_of {f : Fm} (h1 : f.nodes ≠ []) (h2 : f.nodes.length ≤ 200) (h3 : 0 ≤ f.vars) (h4 : f.vars ≤ 8) (h5 : ∀ i n, f.nodes[i]? = some n → NodeOk n i f.vars) : checkE f = 0 := by
  have hh : headE f = 0 := by
    refine (firstE_zero _).2 fun x hx => ?_
    simp only [List.mem_cons, List.not_mem_nil, or_false] at hx
    rcases hx with rfl | rfl | rfl
    · rw [withinE, if_neg (by omega)]
    · rw [whenE, if_neg]; simpa using h1
    · rw [whenE, if_neg]; simp; omega
  rw [checkE, if_pos hh]
  exact nodes_of f.nodes 0 fun i n hn => by
    have := h5 i n hn
    rwa [Nat.zero_add]
theorem shift_kids {n : Nd} {i m : Nat} {vars : Int} (h : NodeOk n i vars) (hi : i ≤ 1000) (hm : m ≤ 1000) : (shiftN m n).kids = n.kids.map fun k => k + (m : Int) := by
  unfold shiftN
  simp only
  by_cases h1 : n.kind ≤ 1
  · rw [(h.term h1).2.2]; rfl
  · have hk := (h.form (by omega)).2.2.2
    refine List.map_congr_left fun k hx => ?_
    have := hk k hx
    exact wrap_i64 _ (by omega) (by omega)
theorem shift_zero {n : Nd} {i : Nat} {vars : Int} (h : NodeOk n i vars) (hi : i ≤ 1000) : shiftN 0 n = n := by
  have := shift_kids (m := 0) h hi (by omega)
  obtain ⟨a, b, c⟩ := n
  show Nd.mk a b _ = _
  have e : (shiftN ((0 : Nat) : Int) ⟨a, b, c⟩).kids = c := by
    rw [this]
    simp
  exact congrArg (Nd.mk a b) e
theorem shift_all {l : List Nd} {vars : Int} (hok : ∀ k n, l[k]? = some n → NodeOk n k vars) (hl : l.length ≤ 1000) : l.map (shiftN 0) = l := by
  have : l.map (shiftN 0) = l.map id := by
    refine List.map_congr_left fun x hx => ?_
    obtain ⟨i, hi, rfl⟩ := List.getElem_of_mem hx
    exact shift_zero (hok i _ (List.getElem?_eq_getElem hi)) (by omega)
  rw [this, List.map_id]
theorem shift_ok {n : Nd} {i m : Nat} {vars : Int} (h : NodeOk n i vars) (hi : i ≤ 1000) (hm : m ≤ 1000) : NodeOk (shiftN m n) (m + i) vars := by
  have hk := shift_kids h hi hm
  refine ⟨h.lo, h.hi, fun h1 => ?_, fun h2 => ?_⟩
  · obtain ⟨a, b, c⟩ := h.term h1
    exact ⟨a, b, by rw [hk, c]; rfl⟩
  · obtain ⟨a, b, c, d⟩ := h.form h2
    refine ⟨a, by rw [hk, List.length_map]; exact b, fun h => by rw [hk, List.length_map]; exact c h, fun k hx => ?_⟩
    rw [hk] at hx
    obtain ⟨y, hy, rfl⟩ := List.mem_map.1 hx
    have := d y hy
    omega
theorem ok_snoc {l : List Nd} {vars : Int} (hok : ∀ k n, l[k]? = some n → NodeOk n k vars) {x : Nd} (hx : NodeOk x l.length vars) : ∀ k n, (l ++ [x])[k]? = some n → NodeOk n k vars := fun k n hn => by
  rcases Nat.lt_or_ge k l.length with h | h
  · rw [List.getElem?_append_left h] at hn
    exact hok k n hn
  · have := lt_of_getElem? hn
    rw [List.length_append, List.length_singleton] at this
    have e : k = l.length := by omega
    subst e
    rw [List.getElem?_append_right h] at hn
    simp at hn
    subst hn
    exact hx
theorem ok_app {a b : List Nd} {vars : Int} (ha : ∀ k n, a[k]? = some n → NodeOk n k vars) (hb : ∀ k n, b[k]? = some n → NodeOk n k vars) (hla : a.length ≤ 1000) (hlb : b.length ≤ 1000) : ∀ k n, (a ++ b.map (shiftN a.length))[k]? = some n → NodeOk n k vars := fun k n hn => by
  rcases Nat.lt_or_ge k a.length with h | h
  · rw [List.getElem?_append_left h] at hn
    exact ha k n hn
  · rw [List.getElem?_append_right h, List.getElem?_map] at hn
    cases hm : b[k - a.length]? with
    | none => rw [hm] at hn; cases hn
    | some y =>
      rw [hm] at hn
      cases hn
      have := shift_ok (m := a.length) (hb _ _ hm) (by have := lt_of_getElem? hm; omega) hla
      rwa [show a.length + (k - a.length) = k by omega] at this
theorem join_nodes {op : Int} {f g : Fm} (hf : checkE f = 0) : (joinF op f g).nodes = f.nodes ++ g.nodes.map (shiftN f.nodes.length) ++ [⟨op, ⟨[], 0⟩, [(f.nodes.length : Int) - 1, (f.nodes.length : Int) + g.nodes.length - 1]⟩] := by
  obtain ⟨_, h2, _, _, h5⟩ := check_ok hf
  unfold joinF
  rw [shift_all h5 (by omega)]
theorem join_check {op : Int} {f g : Fm} (ho : op = 3 ∨ op = 4) (hf : checkE f = 0) (hg : checkE g = 0) (hv : f.vars = g.vars) (hl : f.nodes.length + g.nodes.length < 200) : checkE (joinF op f g) = 0 := by
  obtain ⟨a1, a2, a3, a4, a5⟩ := check_ok hf
  obtain ⟨b1, b2, b3, b4, b5⟩ := check_ok hg
  have p1 := List.length_pos_iff.2 a1
  have p2 := List.length_pos_iff.2 b1
  have e := join_nodes (op := op) (g := g) hf
  have hlen : (f.nodes ++ g.nodes.map (shiftN f.nodes.length)).length = f.nodes.length + g.nodes.length := by simp
  refine check_of (by rw [e]; simp) (by rw [e, List.length_append, hlen]; simp; omega) a3 a4 ?_
  rw [e]
  refine ok_snoc (ok_app a5 (by rw [hv] at *; exact b5) (by omega) (by omega)) ?_
  rw [hlen]
  refine ⟨by show 0 ≤ op; omega, by show op ≤ 4; omega, fun h => ?_, fun _ => ⟨rfl, by show 2 ≤ 200; omega, fun h => ?_, fun k hk => ?_⟩⟩
  · have : op ≤ 1 := h
    omega
  · have : op = 2 := h
    omega
  · simp at hk
    rcases hk with rfl | rfl <;> omega
theorem opp_nodes {f : Fm} (hf : checkE f = 0) : (oppF' f).nodes = f.nodes ++ [⟨2, ⟨[], 0⟩, [(f.nodes.length : Int) - 1]⟩] := by
  obtain ⟨_, h2, _, _, h5⟩ := check_ok hf
  unfold oppF'
  rw [shift_all h5 (by omega)]
theorem opp_check {f : Fm} (hf : checkE f = 0) (hl : f.nodes.length < 200) : checkE (oppF' f) = 0 := by
  obtain ⟨a1, a2, a3, a4, a5⟩ := check_ok hf
  have p1 := List.length_pos_iff.2 a1
  have e := opp_nodes hf
  refine check_of (by rw [e]; simp) (by rw [e, List.length_append]; simp; omega) a3 a4 ?_
  rw [e]
  refine ok_snoc a5 ?_
  refine ⟨by show (0 : Int) ≤ 2; omega, by show (2 : Int) ≤ 4; omega, fun h => ?_, fun _ => ⟨rfl, by show 1 ≤ 200; omega, fun _ => rfl, fun k hk => ?_⟩⟩
  · have : (2 : Int) ≤ 1 := h
    omega
  · simp at hk
    omega
/-! ### What they mean -/
theorem getLastD_snoc {α : Type} (l : List α) (x d : α) : (l ++ [x]).getLastD d = x := by simp [List.getLastD_eq_getLast?]
theorem holds_last {f : Fm} {vs : List Int} (hne : f.nodes ≠ []) : holdsB f vs = ((truthF vs f.nodes [])[f.nodes.length - 1]?).getD false := by
  have hl : (truthF vs f.nodes []).length = f.nodes.length := by rw [truthF_len]; simp
  rw [holdsB, List.getLastD_eq_getLast?, List.getLast?_eq_getElem?, hl]
theorem opp_holds {f : Fm} {vs : List Int} (hf : checkE f = 0) : holdsB (oppF' f) vs = !holdsB f vs := by
  obtain ⟨a1, a2, a3, a4, a5⟩ := check_ok hf
  have p1 := List.length_pos_iff.2 a1
  have e : ((f.nodes.length : Int) - 1).toNat = f.nodes.length - 1 := by omega
  rw [holds_last a1]
  show (truthF vs (oppF' f).nodes []).getLastD false = _
  rw [opp_nodes hf, truth_app, truthF, truthF, getLastD_snoc, nodeB]
  simp only [kidsB, List.map_cons, List.map_nil, List.headD_cons, e]
  rfl
/-- Truths behind others. -/
theorem truth_shift {vs : List Int} {vars : Int} {A : List Bool} (hA : A.length ≤ 1000) : ∀ (l : List Nd) (acc : List Bool), (∀ i n, l[i]? = some n → NodeOk n (acc.length + i) vars) → acc.length + l.length ≤ 1000 →
    truthF vs (l.map (shiftN A.length)) (A ++ acc) = A ++ truthF vs l acc
  | [], acc, _, _ => rfl
  | n :: l, acc, h, hl => by
    rw [List.length_cons] at hl
    have h0 := h 0 n rfl
    rw [Nat.add_zero] at h0
    have e : nodeB vs (A ++ acc) (shiftN A.length n) = nodeB vs acc n := by
      have hk := shift_kids (m := A.length) h0 (by omega) hA
      have hkk : kidsB (A ++ acc) (shiftN A.length n).kids = kidsB acc n.kids := by
        rw [hk]
        unfold kidsB
        rw [List.map_map]
        by_cases h1 : n.kind ≤ 1
        · rw [(h0.term h1).2.2]; rfl
        · refine List.map_congr_left fun k hx => ?_
          have := (h0.form (by omega)).2.2.2 k hx
          simp only [Function.comp]
          rw [List.getElem?_append_right (by omega)]
          congr 2
          omega
      unfold nodeB
      rw [hkk]
      rfl
    rw [List.map_cons, truthF, truthF, e, List.append_assoc]
    exact truth_shift hA l (acc ++ [nodeB vs acc n]) (fun i m hm => by
      have := h (i + 1) m (by simpa using hm)
      rw [List.length_append, List.length_singleton]
      rwa [show acc.length + 1 + i = acc.length + (i + 1) by omega]) (by rw [List.length_append, List.length_singleton]; omega)
theorem join_holds {op : Int} {f g : Fm} {vs : List Int} (ho : op = 3 ∨ op = 4) (hf : checkE f = 0) (hg : checkE g = 0) : holdsB (joinF op f g) vs = if op = 3 then holdsB f vs && holdsB g vs else holdsB f vs || holdsB g vs := by
  obtain ⟨a1, a2, a3, a4, a5⟩ := check_ok hf
  obtain ⟨b1, b2, b3, b4, b5⟩ := check_ok hg
  have p1 := List.length_pos_iff.2 a1
  have p2 := List.length_pos_iff.2 b1
  have hlA : (truthF vs f.nodes []).length = f.nodes.length := by rw [truthF_len]; simp
  have hlB : (truthF vs g.nodes []).length = g.nodes.length := by rw [truthF_len]; simp
  have hs := truth_shift (vs := vs) (vars := g.vars) (A := truthF vs f.nodes []) (by omega) g.nodes [] (fun i n hn => by simpa using b5 i n hn) (by simp; omega)
  rw [List.append_nil, hlA] at hs
  have e1 : ((f.nodes.length : Int) - 1).toNat = f.nodes.length - 1 := by omega
  have e2 : ((f.nodes.length : Int) + g.nodes.length - 1).toNat = f.nodes.length + (g.nodes.length - 1) := by omega
  rw [holds_last a1, holds_last b1]
  show (truthF vs (joinF op f g).nodes []).getLastD false = _
  rw [join_nodes hf, truth_app, truth_app, hs, truthF, truthF, getLastD_snoc, nodeB]
  have k1 : ((truthF vs f.nodes [] ++ truthF vs g.nodes [])[f.nodes.length - 1]?).getD false = ((truthF vs f.nodes [])[f.nodes.length - 1]?).getD false := by
    rw [List.getElem?_append_left (by omega)]
  have k2 : ((truthF vs f.nodes [] ++ truthF vs g.nodes [])[f.nodes.length + (g.nodes.length - 1)]?).getD false = ((truthF vs g.nodes [])[g.nodes.length - 1]?).getD false := by
    rw [List.getElem?_append_right (by omega), hlA, Nat.add_sub_cancel_left]
  simp only [kidsB, List.map_cons, List.map_nil, e1, e2, k1, k2]
  generalize ((truthF vs f.nodes [])[f.nodes.length - 1]?).getD false = x
  generalize ((truthF vs g.nodes [])[g.nodes.length - 1]?).getD false = y
  rcases ho with rfl | rfl
  · cases x <;> cases y <;> rfl
  · cases x <;> cases y <;> rfl
end Go.AL

/- What FormulaMeans asks of the plain laws: the terms of cases are right, their values are exact. -/
set_option linter.unusedVariables false
set_option linter.unusedSimpArgs false
namespace Go.AL
open Go.Proofs
theorem times_len (t : Tm) (m c : Int) : (timesT t m c).coeffs.length = t.coeffs.length := by simp [timesT]
theorem cas_len {l : List Nd} {vars : Int} (hd : KidsDown l) (hok : ∀ k n, l[k]? = some n → NodeOk n k vars) : ∀ (N i : Nat) (b : Bool) (n : Nd), i < N → l[i]? = some n → ∀ x ∈ casW l ((i : Int), b), ∀ u ∈ x, (u.coeffs.length : Int) = vars
  | 0, _, _, _, h, _ => by omega
  | N + 1, i, b, n, hi, hn => by
    intro x hx u hu
    have hO := hok i n hn
    have hlo := hO.lo
    have hhi := hO.hi
    rw [casW_eq hd hn] at hx
    by_cases h1 : n.kind ≤ 1
    · have ht := (hO.term h1).2.1
      rw [atom_eq hO (by omega)] at hx
      unfold atomR at hx
      split at hx
      · rw [List.mem_singleton] at hx
        subst hx
        rw [List.mem_singleton] at hu
        subst hu
        split
        · rw [times_len]; exact ht
        · exact ht
      · split at hx
        · simp only [List.mem_cons, List.not_mem_nil, or_false] at hx
          rcases hx with rfl | rfl <;> (rw [List.mem_singleton] at hu; subst hu; rw [times_len]; exact ht)
        · rw [List.mem_singleton] at hx
          subst hx
          simp only [List.mem_cons, List.not_mem_nil, or_false] at hu
          rcases hu with rfl | rfl
          · exact ht
          · rw [times_len]; exact ht
    · have hk : kindW n b = 2 ∨ kindW n b = 3 ∨ kindW n b = 4 := by unfold kindW; split <;> omega
      obtain ⟨C, hC, y, hy, hu⟩ := mem_mk hk hx hu
      obtain ⟨c, hc, rfl⟩ := List.mem_map.1 hC
      have hxr := hd i n hn c hc
      obtain ⟨j, rfl⟩ := Int.eq_ofNat_of_zero_le hxr.1
      obtain ⟨nc, hnc⟩ : ∃ nc, l[j]? = some nc := ⟨l[j]'(by have := lt_of_getElem? hn; omega), List.getElem?_eq_getElem _⟩
      exact cas_len hd hok N j _ nc (by omega) hnc y hy u hu
theorem check_own {t : Tm} (h8 : t.coeffs.length ≤ 8) (h : inRangeB t = true) : checkTermE t t.coeffs.length = 0 := by
  refine (firstE_zero _).2 fun x hx => ?_
  simp only [List.mem_cons, List.not_mem_nil, or_false] at hx
  rcases hx with rfl | rfl | rfl
  · rw [withinE, if_neg (by omega)]
  · simp [whenE]
  · rw [numbers_eq, h]; rfl
theorem values_ok {vs : List Int} {n : Int} (h : valuesE vs n = 0) : (vs.length : Int) = n ∧ ValZ vs := by
  have h0 := (firstE_zero _).1 h
  have h1 := (whenE_zero (by decide)).1 (h0 (whenE (!decide ((vs.length : Int) = n)) 2) (by simp))
  have h2 := (firstE_zero _).1 (h0 (firstE (vs.map fun x => withinE x (-4294967295) 4294967295)) (by simp))
  refine ⟨by simpa using h1, fun v hv => ?_⟩
  have := h2 _ (List.mem_map_of_mem hv)
  unfold withinE at this
  split at this
  · cases this
  · omega
theorem value_own {t : Tm} {vs : List Int} {n : Int} (h8 : t.coeffs.length ≤ 8) (hl : (t.coeffs.length : Int) = n) (h : inRangeB t = true) (hv : valuesE vs n = 0) : valueE t vs = 0 := by
  rw [valueE, firstE_cons, if_pos (check_own h8 h), firstE_cons, firstE_nil, hl, hv]; rfl
/-- The cases that the library gives: right terms, and what they mean. -/
theorem cases_mean {f : Fm} {vs : List Int} (h : checkE f = 0) (hv : valuesE vs f.vars = 0) (hc : (casesR f).2 = 0) :
    anyP vs (casesR f).1 = holdsB f vs ∧ ∀ x ∈ (casesR f).1, ∀ t ∈ x, t.coeffs.length ≤ 8 ∧ valueE t vs = 0 := by
  obtain ⟨hne, hl200, hv0, hv8, hok⟩ := check_ok h
  obtain ⟨_, hvz⟩ := values_ok hv
  have hd := hdown hok
  have hpos := List.length_pos_iff.2 hne
  have hroot : rootW f = (((f.nodes.length - 1 : Nat) : Int), false) := by rw [rootW]; congr 1; omega
  have hn : f.nodes[f.nodes.length - 1]? = some f.nodes[f.nodes.length - 1] := List.getElem?_eq_getElem (by omega)
  have hm := cas_means hvz hv8 hd hok f.nodes.length (f.nodes.length - 1) false _ (by omega) hn
  have hlen := cas_len hd hok f.nodes.length (f.nodes.length - 1) false _ (by omega) hn
  rw [casesR, if_pos h] at hc ⊢
  cases hb : badW f.nodes (rootW f)
  · rw [hb] at hc
    cases hl : larW f.nodes (rootW f)
    · simp only [Bool.false_eq_true, if_false]
      rw [hroot] at hl ⊢
      refine ⟨?_, fun x hx t ht => ?_⟩
      · rw [hm, holds_last hne, tr, trues, Int.toNat_natCast, Bool.bne_false]
      · have h1 := hlen x hx t ht
        have h8 : t.coeffs.length ≤ 8 := by omega
        rw [larW_eq hd hn, Bool.or_eq_false_iff] at hl
        have hr : larT t = false := by
          cases hr : larT t
          · rfl
          · have := larC_iff.2 ⟨x, hx, t, ht, hr⟩
            rw [this] at hl
            exact absurd hl.1 (by simp)
        rw [larT_eq] at hr
        exact ⟨h8, value_own h8 h1 (by simpa using hr) hv⟩
    · rw [hl] at hc
      simp at hc
  · rw [hb] at hc
    simp at hc
theorem neg_mean {t : Tm} {vs : List Int} {n : Int} (h : checkTermE t n = 0) (hn8 : n ≤ 8) (hv : valuesE vs n = 0) (he : negE t = 0) : (negT t).coeffs.length ≤ 8 ∧ valueE (negT t) vs = 0 ∧ valueR (negT t) vs = -1 - valZ t vs ∧ valueR t vs = valZ t vs := by
  obtain ⟨_, hvz⟩ := values_ok hv
  have hl := term_len h
  have h8 : t.coeffs.length ≤ 8 := by omega
  have hN := range_ok h
  have hown : checkTermE t t.coeffs.length = 0 := check_own h8 (in_range hN)
  rw [negE, if_pos hown] at he
  have hT : negT t = oppT t (-1) := by
    rw [negT, if_pos hown, resT, if_pos (by rw [resE] at he; exact he)]
  have hr : inRangeB (oppT t (-1)) = true := by
    have : largeE (oppT t (-1)) = 0 := by rw [resE] at he; exact he
    have e := larT_eq (oppT t (-1))
    unfold larT at e
    rw [this] at e
    simpa using e.symm
  rw [hT]
  have hll := oppT_len t (-1)
  exact ⟨by rw [hll]; exact h8, value_own (by rw [hll]; exact h8) (by rw [hll]; exact hl) hr hv, value_opp h8 hN (by omega) (by omega) hvz, (near_of h8 hN).val hvz⟩
end Go.AL
