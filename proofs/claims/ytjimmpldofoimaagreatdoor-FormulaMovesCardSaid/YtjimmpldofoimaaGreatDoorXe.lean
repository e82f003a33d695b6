/- Cases: lists put together. -/
import Derived.Test.YtjimmpldofoimaaGreatDoorAn
import Derived.Test.YtjimmpldofoimaaGreatDoorX12
open Nat renaming reduceEqDiff → xQ, reduceAdd → xA, reduceMul → xM, reduceLeDiff → xL
open Int renaming reduceLT → xT, reduceLE → xE, reduceToNat → xN
open Go.AL renaming retPost_one → xP, retPost_oneN → xR, ers_at' → xS
set_option linter.unusedVariables false
set_option linter.unusedSimpArgs false
namespace Go.AL
open Go.Proofs
variable {Γ : Glob}
attribute [local irreducible] codeW opsW dopsW
theorem f274 (n : Nat) (hn : Fits n) (σ : Sig) (K : AV → Sig → Prop) (hK : ∀ a σ', Made σ 2 [] 0 a σ' → K a σ') : ACalls Tryz.prog Γ 274 [.v (.slice none 0 0), int n] σ K := by
  refine acalls (ok274 Γ) ?_
  have hneg : ((n : Int) < 0) = False := eq_false (by omega)
  have hw : IntKind.i64.wrap (n : Int) = n := wrap_nat n (by omega)
  have hw0 : IntKind.i64.wrap (0 : Int) = 0 := rfl
  by_cases h : 0 < n
  · have h' : ((0 : Int) < n) = True := eq_true (by omega)
    simp only [go_sem, xQ, ↓reduceIte, xA, xM, xL, xT, xE, xN, xP, xR, xS, Tryz.f274, hneg, hw, hw0, Int.sub_zero, h', true_or]
    refine appB_make (appM el32 tk94 by94 us3 (by decide) rfl (by decide)) (by omega) h (fun b c hb hc => ?_)
    simp only [go_sem, xQ, ↓reduceIte, xA, xM, xL, xT, xE, xN, xP, xR, xS, hneg, hw, hw0, Int.sub_zero, h']
    exact hK _ _ (.inr ⟨b, c, hb, rfl, rfl, rfl⟩)
  · have h' : ((0 : Int) < n) = False := eq_false (by omega)
    simp only [go_sem, xQ, ↓reduceIte, xA, xM, xL, xT, xE, xN, xP, xR, xS, Tryz.f274, hneg, hw, hw0, Int.sub_zero, h']
    exact hK _ _ (.inl ⟨.inl rfl, rfl, rfl, rfl⟩)
theorem f273 (n : Nat) (hn : Fits n) (σ : Sig) (K : AV → Sig → Prop) (hK : ∀ a σ', Made σ 1 [] 0 a σ' → K a σ') : ACalls Tryz.prog Γ 273 [.v (.slice none 0 0), int n] σ K := by
  refine acalls (ok273 Γ) ?_
  have hneg : ((n : Int) < 0) = False := eq_false (by omega)
  have hw : IntKind.i64.wrap (n : Int) = n := wrap_nat n (by omega)
  have hw0 : IntKind.i64.wrap (0 : Int) = 0 := rfl
  by_cases h : 0 < n
  · have h' : ((0 : Int) < n) = True := eq_true (by omega)
    simp only [go_sem, xQ, ↓reduceIte, xA, xM, xL, xT, xE, xN, xP, xR, xS, Tryz.f273, hneg, hw, hw0, Int.sub_zero, h', true_or]
    refine appB_make (appM el73 tk32 by32 us3 (by decide) rfl (by decide)) (by omega) h (fun b c hb hc => ?_)
    simp only [go_sem, xQ, ↓reduceIte, xA, xM, xL, xT, xE, xN, xP, xR, xS, hneg, hw, hw0, Int.sub_zero, h']
    exact hK _ _ (.inr ⟨b, c, hb, rfl, rfl, rfl⟩)
  · have h' : ((0 : Int) < n) = False := eq_false (by omega)
    simp only [go_sem, xQ, ↓reduceIte, xA, xM, xL, xT, xE, xN, xP, xR, xS, Tryz.f273, hneg, hw, hw0, Int.sub_zero, h']
    exact hK _ _ (.inl ⟨.inl rfl, rfl, rfl, rfl⟩)
theorem Made.grow {σ σ' : Sig} {s n : Nat} {cs : List AV} {a : AV} (h : Made σ s cs n a σ') : Drop σ' σ ∧ Grow σ σ' s a cs n := by
  rcases h with ⟨h1, h2, h3, rfl⟩ | ⟨b, c, h1, rfl, rfl, h2⟩
  · exact ⟨.refl _, .inl ⟨h1, h2, h3⟩⟩
  · exact ⟨(Drop.refl σ).upd h1, .inr ⟨b, c, rfl, h1, upd_same _ _ _, h2⟩⟩
theorem flat_succ {α : Type} {l : List (List α)} {k : Nat} {x : List α} (h : l[k]? = some x) : (l.take (k + 1)).flatten = (l.take k).flatten ++ x := by rw [take_succ h]; simp
theorem flat_le {α : Type} {l : List (List α)} (k : Nat) : (l.take k).flatten.length ≤ l.flatten.length := by
  have : (l.take k).flatten.length + (l.drop k).flatten.length = l.flatten.length := by rw [← List.length_append, ← List.flatten_append, List.take_append_drop]
  omega
theorem one_rows (l : List Tm) : (l.flatMap tmC).all AV.one = true := by
  induction l with
  | nil => rfl
  | cons t l ih => rw [List.flatMap_cons, List.all_append, ih]; rfl
theorem one_slT (l : List (List Tm)) : (l.map slT).all AV.one = true := by
  induction l with
  | nil => rfl
  | cons t l ih => rw [List.map_cons, List.all_cons, ih]; rfl
theorem f258 (l : List (List Tm)) (hl : Fits l.length) (hF : Fits l.flatten.length) : PCalls Tryz.prog Γ 258 [slC l] (slT l.flatten) := by
  refine pcalls (ok258 Γ) fun σ => ?_
  simp only [go_sem, xQ, ↓reduceIte, xA, xM, xL, xT, xE, xN, xP, xR, xS, Tryz.f258]
  refine SemC.loopK mixed l.length (fun k ρ σ' ds => σ' = σ ∧ ds = [] ∧ ρ 0 = slC l ∧ ρ 3 = int (l.take k).flatten.length ∧ ρ 9 = slC l ∧ ρ 10 = int l.length ∧ ρ 11 = int k) (by kernel_rfl) ⟨rfl, rfl, rfl, rfl, rfl, rfl, rfl⟩ ?_
  rintro k ρ σ' ds hk ⟨rfl, rfl, h0, h3, h9, h10, h11⟩
  rcases get_or_end l k hk with ⟨x, hx, hlt, hd⟩ | rfl
  · have hfl := flat_le (l := l) (k + 1)
    rw [flat_succ hx, List.length_append] at hfl
    have hw : IntKind.i64.wrap (((l.take k).flatten.length : Int) + x.length) = (((l.take k).flatten.length + x.length : Nat) : Int) := by rw [← Int.natCast_add]; exact wrap_nat _ (by omega)
    have hneg : ((((l.take k).flatten.length + x.length : Nat) : Int) < 0) = False := eq_false (by omega)
    simp only [go_sem, xQ, ↓reduceIte, xA, xM, xL, xT, xE, xN, xP, xR, xS, h0, h3, h9, h10, h11, hlt, hx, hw, hneg]
    exact ⟨by rw [flat_succ hx, List.length_append], by rw [wrap_succ _ (by omega)]⟩
  · rw [List.take_length] at h3
    simp only [go_sem, xQ, ↓reduceIte, xA, xM, xL, xT, xE, xN, xP, xR, xS, h0, h3, h9, h10, h11, Nat.lt_irrefl]
    refine callB_a (f274 l.flatten.length hF σ' _ (fun a σ1 hm => ?_)) rfl
    obtain ⟨hD1, hG1⟩ := hm.grow
    simp only [go_sem, xQ, ↓reduceIte, xA, xM, xL, xT, xE, xN, xP, xR, xS, h0, h3, h9, h10, h11]
    refine SemC.loopK mixed l.length (fun k ρ σ2 ds => Drop σ2 σ' ∧ ds = [] ∧ ρ 25 = slC l ∧ ρ 26 = int l.length ∧ ρ 27 = int k ∧ Grow σ' σ2 2 (ρ 6) ((l.take k).flatten.flatMap tmC) (l.take k).flatten.length) (by kernel_rfl) ⟨hD1, rfl, by simp only [go_sem, xQ, ↓reduceIte, xA, xM, xL, xT, xE, xN, xP, xR, xS, h0], rfl, rfl, hG1⟩ ?_
    rintro k ρ σ2 ds hk ⟨hD, rfl, h25, h26, h27, hG⟩
    rcases get_or_end l k hk with ⟨x, hx, hlt, hd⟩ | rfl
    · have hfl := flat_le (l := l) (k + 1)
      rw [flat_succ hx, List.length_append] at hfl
      simp only [go_sem, xQ, ↓reduceIte, xA, xM, xL, xT, xE, xN, xP, xR, xS, h25, h26, h27, hlt, hx]
      refine appB_sl (appT_sl el32 tk94 by94 el32 (by decide) rfl (by decide)) hD hG (one_rows x) (rows_length tmC_len) (by omega) (fun a' σ3 hD2 hO hG2 => ?_)
      simp only [go_sem, xQ, ↓reduceIte, xA, xM, xL, xT, xE, xN, xP, xR, xS, h25, h26, h27]
      refine ⟨hD2, by rw [wrap_succ _ (by omega)], ?_⟩
      rw [flat_succ hx, List.length_append, List.flatMap_append]
      exact hG2
    · rw [List.take_length] at hG
      simp only [go_sem, xQ, ↓reduceIte, xA, xM, xL, xT, xE, xN, xP, xR, xS, h25, h26, h27, Nat.lt_irrefl]
      exact hG.retP hD
theorem f257 (l : List (List (List Tm))) (hl : Fits l.length) (hF : Fits l.flatten.length) : PCalls Tryz.prog Γ 257 [slCC l] (slC l.flatten) := by
  refine pcalls (ok257 Γ) fun σ => ?_
  simp only [go_sem, xQ, ↓reduceIte, xA, xM, xL, xT, xE, xN, xP, xR, xS, Tryz.f257]
  refine SemC.loopK mixed l.length (fun k ρ σ' ds => σ' = σ ∧ ds = [] ∧ ρ 0 = slCC l ∧ ρ 3 = int (l.take k).flatten.length ∧ ρ 9 = slCC l ∧ ρ 10 = int l.length ∧ ρ 11 = int k) (by kernel_rfl) ⟨rfl, rfl, rfl, rfl, rfl, rfl, rfl⟩ ?_
  rintro k ρ σ' ds hk ⟨rfl, rfl, h0, h3, h9, h10, h11⟩
  rcases get_or_end l k hk with ⟨x, hx, hlt, hd⟩ | rfl
  · have hfl := flat_le (l := l) (k + 1)
    rw [flat_succ hx, List.length_append] at hfl
    have hw : IntKind.i64.wrap (((l.take k).flatten.length : Int) + x.length) = (((l.take k).flatten.length + x.length : Nat) : Int) := by rw [← Int.natCast_add]; exact wrap_nat _ (by omega)
    have hneg : ((((l.take k).flatten.length + x.length : Nat) : Int) < 0) = False := eq_false (by omega)
    simp only [go_sem, xQ, ↓reduceIte, xA, xM, xL, xT, xE, xN, xP, xR, xS, h0, h3, h9, h10, h11, hlt, hx, hw, hneg]
    exact ⟨by rw [flat_succ hx, List.length_append], by rw [wrap_succ _ (by omega)]⟩
  · rw [List.take_length] at h3
    simp only [go_sem, xQ, ↓reduceIte, xA, xM, xL, xT, xE, xN, xP, xR, xS, h0, h3, h9, h10, h11, Nat.lt_irrefl]
    refine callB_a (f273 l.flatten.length hF σ' _ (fun a σ1 hm => ?_)) rfl
    obtain ⟨hD1, hG1⟩ := hm.grow
    simp only [go_sem, xQ, ↓reduceIte, xA, xM, xL, xT, xE, xN, xP, xR, xS, h0, h3, h9, h10, h11]
    refine SemC.loopK mixed l.length (fun k ρ σ2 ds => Drop σ2 σ' ∧ ds = [] ∧ ρ 25 = slCC l ∧ ρ 26 = int l.length ∧ ρ 27 = int k ∧ Grow σ' σ2 1 (ρ 6) ((l.take k).flatten.map slT) (l.take k).flatten.length) (by kernel_rfl) ⟨hD1, rfl, by simp only [go_sem, xQ, ↓reduceIte, xA, xM, xL, xT, xE, xN, xP, xR, xS, h0], rfl, rfl, hG1⟩ ?_
    rintro k ρ σ2 ds hk ⟨hD, rfl, h25, h26, h27, hG⟩
    rcases get_or_end l k hk with ⟨x, hx, hlt, hd⟩ | rfl
    · have hfl := flat_le (l := l) (k + 1)
      rw [flat_succ hx, List.length_append] at hfl
      simp only [go_sem, xQ, ↓reduceIte, xA, xM, xL, xT, xE, xN, xP, xR, xS, h25, h26, h27, hlt, hx]
      refine appB_sl (appT_sl el73 tk32 by32 el73 (by decide) rfl (by decide)) hD hG (one_slT x) (by simp) (by omega) (fun a' σ3 hD2 hO hG2 => ?_)
      simp only [go_sem, xQ, ↓reduceIte, xA, xM, xL, xT, xE, xN, xP, xR, xS, h25, h26, h27]
      refine ⟨hD2, by rw [wrap_succ _ (by omega)], ?_⟩
      rw [flat_succ hx, List.length_append, List.map_append]
      exact hG2
    · rw [List.take_length] at hG
      simp only [go_sem, xQ, ↓reduceIte, xA, xM, xL, xT, xE, xN, xP, xR, xS, h25, h26, h27, Nat.lt_irrefl]
      exact hG.retP hD
/-- Each list of the first ones followed by each of the second ones. -/
def prodC (a b : List (List Tm)) : List (List Tm) := a.flatMap fun x => b.map fun y => x ++ y
theorem prodC_succ {a b : List (List Tm)} {k : Nat} {x : List Tm} (h : a[k]? = some x) : prodC (a.take (k + 1)) b = prodC (a.take k) b ++ b.map fun y => x ++ y := by rw [take_succ h, prodC, List.flatMap_append]; simp [prodC]
theorem prodC_len (a b : List (List Tm)) : (prodC a b).length = a.length * b.length := by
  induction a with
  | nil => simp [prodC]
  | cons x a ih => rw [prodC, List.flatMap_cons, List.length_append, List.length_map, List.length_cons, Nat.add_mul, Nat.one_mul, ← prodC, ih]; omega
theorem f256 (a b : List (List Tm)) (ha : a.length ≤ 10000) (hb : b.length ≤ 10000) (hal : ∀ x ∈ a, x.length ≤ 1000000) (hbl : ∀ x ∈ b, x.length ≤ 1000000) : PCalls Tryz.prog Γ 256 [slC a, slC b] (slC (prodC a b)) := by
  refine pcalls (ok256 Γ) fun σ => ?_
  simp only [go_sem, xQ, ↓reduceIte, xA, xM, xL, xT, xE, xN, xP, xR, xS, Tryz.f256]
  refine SemC.loopK mixed a.length (fun k ρ σ' ds => Drop σ' σ ∧ ds = [] ∧ ρ 0 = slC a ∧ ρ 1 = slC b ∧ ρ 10 = slC a ∧ ρ 11 = int a.length ∧ ρ 12 = int k ∧ Grow σ σ' 1 (ρ 5) ((prodC (a.take k) b).map slT) (k * b.length)) (by kernel_rfl) ⟨.refl _, rfl, rfl, rfl, rfl, rfl, rfl, by rw [Nat.zero_mul]; exact Grow.nil _ _ _⟩ ?_
  rintro k ρ σ' ds hk ⟨hD, rfl, h0, h1, h10, h11, h12, hG⟩
  rcases get_or_end a k hk with ⟨x, hx, hlt, hd⟩ | hk
  · by_cases hb0 : b = []
    · subst hb0
      simp only [go_sem, xQ, ↓reduceIte, xA, xM, xL, xT, xE, xN, xP, xR, xS, h0, h1, h10, h11, h12, hlt, hx]
      have e : (prodC (a.take k) []).map slT = ([] : List AV) := by simp [prodC]
      rw [e] at hG
      have := hG.retP hD
      have e2 : prodC a [] = [] := by simp [prodC]
      rw [e2]
      exact this
    · have hbn : ¬ ((b.length : Int) = 0) := by
        have := List.length_pos_iff.2 hb0
        omega
      have hxl := hal x (mem_of_get hx)
      have hmul : (k + 1) * b.length ≤ 10000 * 10000 := Nat.mul_le_mul (by omega) hb
      simp only [go_sem, xQ, ↓reduceIte, xA, xM, xL, xT, xE, xN, xP, xR, xS, h0, h1, h10, h11, h12, hlt, hx, hbn]
      refine SemC.loopK mixed b.length (fun j ρ σ2 ds => Drop σ2 σ ∧ ds = [] ∧ ρ 0 = slC a ∧ ρ 1 = slC b ∧ ρ 7 = slT x ∧ ρ 10 = slC a ∧ ρ 11 = int a.length ∧ ρ 12 = int k ∧ ρ 19 = slC b ∧ ρ 20 = int b.length ∧ ρ 21 = int j ∧ Grow σ σ2 1 (ρ 5) ((prodC (a.take k) b ++ (b.take j).map fun y => x ++ y).map slT) (k * b.length + j)) (by kernel_rfl) ⟨hD, rfl, by simp only [go_sem, xQ, ↓reduceIte, xA, xM, xL, xT, xE, xN, xP, xR, xS, h0], by simp only [go_sem, xQ, ↓reduceIte, xA, xM, xL, xT, xE, xN, xP, xR, xS, h1], rfl, by simp only [go_sem, xQ, ↓reduceIte, xA, xM, xL, xT, xE, xN, xP, xR, xS, h10], by simp only [go_sem, xQ, ↓reduceIte, xA, xM, xL, xT, xE, xN, xP, xR, xS, h11], by simp only [go_sem, xQ, ↓reduceIte, xA, xM, xL, xT, xE, xN, xP, xR, xS, h12], by simp only [go_sem, xQ, ↓reduceIte, xA, xM, xL, xT, xE, xN, xP, xR, xS, h1], rfl, rfl, by simp only [List.take_zero, List.map_nil, List.append_nil, Nat.add_zero]; exact hG⟩ ?_
      rintro j ρ σ2 ds hj ⟨hD, rfl, h0, h1, h7, h10, h11, h12, h19, h20, h21, hG⟩
      rcases get_or_end b j hj with ⟨y, hy, hlt2, hd2⟩ | hjj
      · have hyl := hbl y (mem_of_get hy)
        simp only [go_sem, xQ, ↓reduceIte, xA, xM, xL, xT, xE, xN, xP, xR, xS, h0, h1, h7, h10, h11, h12, h19, h20, h21, hlt2, hy]
        refine callB_use (f258 [x, y] (by simp) (by simp; omega)) rfl ?_
        simp only [go_sem, xQ, ↓reduceIte, xA, xM, xL, xT, xE, xN, xP, xR, xS, h0, h1, h7, h10, h11, h12, h19, h20, h21]
        rw [Nat.add_mul] at hmul
        refine appB_sl (appT_sl el73 tk32 by32 el73 (by decide) rfl (by decide)) hD hG rfl rfl (by omega) (fun a' σ3 hD2 hO hG2 => ?_)
        simp only [go_sem, xQ, ↓reduceIte, xA, xM, xL, xT, xE, xN, xP, xR, xS, h0, h1, h7, h10, h11, h12, h19, h20, h21]
        refine ⟨hD2, by rw [wrap_succ _ (by omega)], ?_⟩
        rw [take_succ hy]
        simpa [Nat.add_assoc, slT] using hG2
      · subst hjj
        rw [List.take_length, ← prodC_succ hx] at hG
        simp only [go_sem, xQ, ↓reduceIte, xA, xM, xL, xT, xE, xN, xP, xR, xS, h0, h1, h7, h10, h11, h12, h19, h20, h21, Nat.lt_irrefl]
        exact ⟨hlt, hD, by rw [wrap_succ _ (by omega)], by rw [Nat.add_mul, Nat.one_mul]; exact hG⟩
  · subst hk
    rw [List.take_length] at hG
    simp only [go_sem, xQ, ↓reduceIte, xA, xM, xL, xT, xE, xN, xP, xR, xS, h0, h1, h10, h11, h12, Nat.lt_irrefl]
    rw [prodC_len]
    exact hG.retP hD
end Go.AL

/- Cases, told plainly: the lists of a way, and how they count. -/
set_option linter.unusedVariables false
set_option linter.unusedSimpArgs false
namespace Go.AL
/-- The lists of a way, by those of the kids. -/
def mkC (k : Int) (b : Bool) (t : Tm) (sub : List (List (List Tm))) : List (List Tm) :=
  if k = 0 then [[lessT (if b then oppT t (-1) else t) 0]]
  else if k = 1 then (if b then [[lessT t 1], [oppT t (-1)]] else [[lessT t 0, oppT t 0]])
  else if k = 2 then sub.getLastD []
  else if k = 3 then (if sub.any (fun x => decide (x.length = 0)) then [] else sub.foldl prodC [[]])
  else if k = 4 then sub.flatten else []
def casF (l : List Nd) : Nat → WayT → List (List Tm)
  | 0, _ => []
  | fuel + 1, w => match l[w.1.toNat]? with
    | none => []
    | some n => mkC (kindW n w.2) w.2 n.term (n.kids.map fun x => casF l fuel (x, w.2 != decide (n.kind = 2)))
def casW (l : List Nd) (w : WayT) : List (List Tm) := casF l (w.1.toNat + 1) w
theorem casF_st {l : List Nd} (hd : KidsDown l) : ∀ (fuel fuel' : Nat) (w : WayT), w.1.toNat < fuel → w.1.toNat < fuel' → casF l fuel w = casF l fuel' w
  | 0, _, _, h, _ => by omega
  | _ + 1, 0, _, _, h => by omega
  | fuel + 1, fuel' + 1, w, h, h' => by
    rw [casF, casF]
    cases hn : l[w.1.toNat]? with
    | none => rfl
    | some n =>
      have e : (n.kids.map fun x => casF l fuel (x, w.2 != decide (n.kind = 2))) = n.kids.map fun x => casF l fuel' (x, w.2 != decide (n.kind = 2)) := by
        refine List.map_congr_left fun x hx => ?_
        have := hd _ _ hn x hx
        exact casF_st hd fuel fuel' _ (by simp only; omega) (by simp only; omega)
      simp only [e]
def subW (l : List Nd) (n : Nd) (b : Bool) : List (List (List Tm)) := n.kids.map fun x => casW l (x, b != decide (n.kind = 2))
theorem casW_eq {l : List Nd} (hd : KidsDown l) {i : Nat} {n : Nd} (hn : l[i]? = some n) (b : Bool) : casW l ((i : Int), b) = mkC (kindW n b) b n.term (subW l n b) := by
  have e : (n.kids.map fun x => casF l i (x, b != decide (n.kind = 2))) = subW l n b := by
    refine List.map_congr_left fun x hx => ?_
    have := hd _ _ hn x hx
    exact casF_st hd _ _ _ (by simp only; omega) (by simp only; omega)
  rw [casW]
  simp only [Int.toNat_natCast, casF, hn, e]
/-- The longest list. -/
def maxL : List (List Tm) → Nat
  | [] => 0
  | x :: l => max x.length (maxL l)
theorem maxL_mem {l : List (List Tm)} {x : List Tm} (h : x ∈ l) : x.length ≤ maxL l := by
  induction l with
  | nil => cases h
  | cons y l ih =>
    rw [maxL]
    rcases List.mem_cons.1 h with rfl | h
    · exact Nat.le_max_left _ _
    · exact Nat.le_trans (ih h) (Nat.le_max_right _ _)
theorem maxL_app (a b : List (List Tm)) : maxL (a ++ b) = max (maxL a) (maxL b) := by
  induction a with
  | nil => simp [maxL]
  | cons x a ih => rw [List.cons_append, maxL, maxL, ih]; omega
theorem maxL_map (x : List Tm) {b : List (List Tm)} (h : b ≠ []) : maxL (b.map fun y => x ++ y) = x.length + maxL b := by
  induction b with
  | nil => exact absurd rfl h
  | cons y b ih =>
    rw [List.map_cons, maxL, maxL, List.length_append]
    by_cases hb : b = []
    · subst hb; simp [maxL]
    · rw [ih hb]; omega
theorem maxL_prod {a b : List (List Tm)} (ha : a ≠ []) (hb : b ≠ []) : maxL (prodC a b) = maxL a + maxL b := by
  induction a with
  | nil => exact absurd rfl ha
  | cons x a ih =>
    rw [prodC, List.flatMap_cons, maxL_app, maxL_map x hb, maxL]
    by_cases ha' : a = []
    · subst ha'; simp [maxL]
    · have := ih ha'
      rw [prodC] at this
      rw [this]
      omega
theorem maxL_zero {a : List (List Tm)} (h : a.length = 0) : maxL a = 0 := by
  have : a = [] := List.eq_nil_of_length_eq_zero h
  subst this; rfl
/-- How lists count. -/
def sizeC (C : List (List Tm)) : Int × Int := (min (C.length : Int) 65, min (maxL C : Int) 33)
def exC (C : List (List Tm)) : Int × Int := ((C.length : Int), (maxL C : Int))
theorem size_small {C : List (List Tm)} (h1 : C.length ≤ 64) (h2 : maxL C ≤ 32) : sizeC C = exC C := by
  unfold sizeC exC
  rw [Int.min_eq_left (by omega), Int.min_eq_left (by omega)]
theorem size_bad {C : List (List Tm)} : badC (sizeC C) = false ↔ C.length ≤ 64 ∧ maxL C ≤ 32 := by
  unfold badC sizeC
  simp only [Bool.or_eq_false_iff, decide_eq_false_iff_not]
  omega
theorem foldl_A : ∀ (S : List (List (List Tm))) (A : List (List Tm)), (∀ C ∈ S, C ≠ []) → A ≠ [] → (S.map exC).foldl stepA (min (A.length : Int) 65, (maxL A : Int)) = (min ((S.foldl prodC A).length : Int) 65, (maxL (S.foldl prodC A) : Int)) ∧ S.foldl prodC A ≠ []
  | [], A, _, hA => ⟨rfl, hA⟩
  | C :: S, A, h, hA => by
    have hC := h C (by simp)
    have hp : prodC A C ≠ [] := fun e => by
      have := congrArg List.length e
      rw [prodC_len, List.length_nil] at this
      have := List.length_pos_iff.2 hA
      have := List.length_pos_iff.2 hC
      rcases Nat.mul_eq_zero.1 ‹_› with h | h <;> omega
    have e : stepA (min (A.length : Int) 65, (maxL A : Int)) (exC C) = (min ((prodC A C).length : Int) 65, (maxL (prodC A C) : Int)) := by
      have h1 := List.length_pos_iff.2 hC
      rw [prodC_len, maxL_prod hA hC, stepA, exC]
      simp only [Int.natCast_add, Int.natCast_mul, Prod.mk.injEq, and_true]
      by_cases h65 : (A.length : Int) ≤ 65
      · rw [Int.min_eq_left h65]
      · have hm : (65 : Int) ≤ (A.length : Int) * (C.length : Int) := by
          have := Int.mul_le_mul (show (65 : Int) ≤ A.length by omega) (show (1 : Int) ≤ C.length by omega) (by decide) (by omega)
          omega
        have hm2 : (65 : Int) ≤ 65 * (C.length : Int) := by omega
        rw [Int.min_eq_right (show (65 : Int) ≤ A.length by omega), Int.min_eq_right hm, Int.min_eq_right hm2]
    rw [List.map_cons, List.foldl_cons, List.foldl_cons, e]
    exact foldl_A S _ (fun D hD => h D (List.mem_cons_of_mem _ hD)) hp
theorem foldl_O : ∀ (S : List (List (List Tm))) (A : List (List Tm)), (S.map exC).foldl stepO (min (A.length : Int) 65, (maxL A : Int)) = (min ((A ++ S.flatten).length : Int) 65, (maxL (A ++ S.flatten) : Int))
  | [], A => by simp
  | C :: S, A => by
    have e : stepO (min (A.length : Int) 65, (maxL A : Int)) (exC C) = (min ((A ++ C).length : Int) 65, (maxL (A ++ C) : Int)) := by
      rw [maxL_app, List.length_append, stepO, exC]
      simp only [Int.natCast_add, Prod.mk.injEq]
      omega
    rw [List.map_cons, List.foldl_cons, e, foldl_O S (A ++ C), List.flatten_cons, List.append_assoc]
/-- Kids that count as they are make lists that count as they are. -/
theorem size_mk (k : Int) (b : Bool) (t : Tm) (S : List (List (List Tm))) (hk : k = 0 ∨ k = 1 ∨ k = 2 ∨ k = 3 ∨ k = 4) (h2 : k = 2 → ∃ C, S = [C]) (hS : ∀ C ∈ S, C.length ≤ 64) :
    ((outC k b (S.map exC)).1, min (outC k b (S.map exC)).2 33) = sizeC (mkC k b t S) := by
  rcases hk with rfl | rfl | rfl | rfl | rfl
  · rfl
  · cases b <;> rfl
  · obtain ⟨C, rfl⟩ := h2 rfl
    have := hS C (by simp)
    have e : outC 2 b ([C].map exC) = exC C := rfl
    have e2 : mkC 2 b t [C] = C := rfl
    rw [e, e2, exC, sizeC, Int.min_eq_left (show (C.length : Int) ≤ 65 by omega)]
  · have ha : ((S.map exC).any fun n => decide (n = (0, 0))) = S.any fun x => decide (x.length = 0) := by
      rw [List.any_map]
      congr 1
      funext C
      simp only [Function.comp, exC]
      refine decide_eq_decide.2 ⟨fun h => ?_, fun h => ?_⟩
      · injection h with h1 _; omega
      · rw [h, maxL_zero h]; rfl
    have e : outC 3 b (S.map exC) = if (S.map exC).any (fun n => decide (n = (0, 0))) then (0, 0) else (S.map exC).foldl stepA (1, 0) := rfl
    have e2 : mkC 3 b t S = if S.any (fun x => decide (x.length = 0)) then [] else S.foldl prodC [[]] := rfl
    rw [e, e2, ha]
    split
    · rfl
    · rename_i h
      obtain ⟨f1, f2⟩ := foldl_A S [[]] (fun C hC e => h (List.any_eq_true.2 ⟨C, hC, by simp [e]⟩)) (by simp)
      have h0 : ((min (([[]] : List (List Tm)).length : Int) 65, (maxL [[]] : Int)) : Int × Int) = (1, 0) := rfl
      rw [h0] at f1
      rw [f1]
      rfl
  · have e : outC 4 b (S.map exC) = (S.map exC).foldl stepO (0, 0) := rfl
    have e2 : mkC 4 b t S = S.flatten := rfl
    have f := foldl_O S []
    have h0 : ((min (([] : List (List Tm)).length : Int) 65, (maxL [] : Int)) : Int × Int) = (0, 0) := rfl
    rw [h0, List.nil_append] at f
    rw [e, e2, f]
    rfl
theorem kindW_cases {n : Nd} {i : Nat} {vars : Int} (h : NodeOk n i vars) (b : Bool) : kindW n b = 0 ∨ kindW n b = 1 ∨ kindW n b = 2 ∨ kindW n b = 3 ∨ kindW n b = 4 := by
  have := h.lo
  have := h.hi
  unfold kindW
  split <;> omega
theorem cnt_cas {l : List Nd} {vars : Int} (hd : KidsDown l) (hok : ∀ k n, l[k]? = some n → NodeOk n k vars) : ∀ (N i : Nat) (b : Bool) (n : Nd), i < N → l[i]? = some n →
    ((∀ x ∈ n.kids, badW l (x, b != decide (n.kind = 2)) = false) → cntW l ((i : Int), b) = sizeC (casW l ((i : Int), b))) ∧
    (badW l ((i : Int), b) = false → (casW l ((i : Int), b)).length ≤ 64 ∧ maxL (casW l ((i : Int), b)) ≤ 32 ∧ cntW l ((i : Int), b) = exC (casW l ((i : Int), b)))
  | 0, _, _, _, h, _ => by omega
  | N + 1, i, b, n, hi, hn => by
    have h1 : (∀ x ∈ n.kids, badW l (x, b != decide (n.kind = 2)) = false) → cntW l ((i : Int), b) = sizeC (casW l ((i : Int), b)) := fun hk => by
      have hkid : ∀ x ∈ n.kids, (casW l (x, b != decide (n.kind = 2))).length ≤ 64 ∧ cntW l (x, b != decide (n.kind = 2)) = exC (casW l (x, b != decide (n.kind = 2))) := fun x hx => by
        have hxr := hd i n hn x hx
        obtain ⟨j, rfl⟩ := Int.eq_ofNat_of_zero_le hxr.1
        obtain ⟨nc, hnc⟩ : ∃ nc, l[j]? = some nc := ⟨l[j]'(by have := lt_of_getElem? hn; omega), List.getElem?_eq_getElem _⟩
        obtain ⟨a1, a2, a3⟩ := (cnt_cas hd hok N j (b != decide (n.kind = 2)) nc (by omega) hnc).2 (hk _ hx)
        exact ⟨a1, a3⟩
      have hs : (n.kids.map fun x => cntW l (x, b != decide (n.kind = 2))) = (subW l n b).map exC := by
        rw [subW, List.map_map]
        exact List.map_congr_left fun x hx => (hkid x hx).2
      rw [cntW_eq hd hn, casW_eq hd hn, hs]
      refine size_mk _ _ _ _ (kindW_cases (hok i n hn) b) (fun h2 => ?_) (fun C hC => ?_)
      · have hk2 : n.kind = 2 := by have := (hok i n hn).lo; have := (hok i n hn).hi; unfold kindW at h2; split at h2 <;> omega
        obtain ⟨x, hx⟩ := List.length_eq_one_iff.1 (((hok i n hn).form (by omega)).2.2.1 hk2)
        exact ⟨_, by rw [subW, hx]; rfl⟩
      · obtain ⟨x, hx, rfl⟩ := List.mem_map.1 hC
        exact (hkid x hx).1
    refine ⟨h1, fun hb => ?_⟩
    rw [badW_eq hd hn, Bool.or_eq_false_iff] at hb
    have e := h1 (fun x hx => by
      have := List.any_eq_false.1 hb.2 x hx
      simpa using this)
    rw [e] at hb
    obtain ⟨a1, a2⟩ := size_bad.1 hb.1
    exact ⟨a1, a2, by rw [e, size_small a1 a2]⟩
theorem bad_kid {l : List Nd} (hd : KidsDown l) {i : Nat} {n : Nd} (hn : l[i]? = some n) {b : Bool} (h : badW l ((i : Int), b) = false) {x : Int} (hx : x ∈ n.kids) : badW l (x, b != decide (n.kind = 2)) = false := by
  rw [badW_eq hd hn, Bool.or_eq_false_iff] at h
  have := List.any_eq_false.1 h.2 x hx
  simpa using this
theorem flat_max (C : List (List Tm)) : C.flatten.length ≤ C.length * maxL C := by
  induction C with
  | nil => simp
  | cons x C ih =>
    rw [List.flatten_cons, List.length_append, List.length_cons, maxL, Nat.add_mul, Nat.one_mul]
    have h1 : C.length * maxL C ≤ C.length * max x.length (maxL C) := Nat.mul_le_mul_left _ (Nat.le_max_right _ _)
    have h2 : x.length ≤ max x.length (maxL C) := Nat.le_max_left _ _
    omega
theorem prod_up : ∀ (S : List (List (List Tm))) (A : List (List Tm)), (∀ C ∈ S, C ≠ []) → A ≠ [] → A.length ≤ (S.foldl prodC A).length ∧ maxL A ≤ maxL (S.foldl prodC A) ∧ S.foldl prodC A ≠ []
  | [], A, _, hA => ⟨Nat.le_refl _, Nat.le_refl _, hA⟩
  | C :: S, A, h, hA => by
    have hC := h C (by simp)
    have hp : prodC A C ≠ [] := fun e => by
      have := congrArg List.length e
      rw [prodC_len, List.length_nil] at this
      have := List.length_pos_iff.2 hA
      have := List.length_pos_iff.2 hC
      rcases Nat.mul_eq_zero.1 ‹_› with h | h <;> omega
    obtain ⟨a1, a2, a3⟩ := prod_up S (prodC A C) (fun D hD => h D (List.mem_cons_of_mem _ hD)) hp
    rw [maxL_prod hA hC] at a2
    rw [prodC_len] at a1
    have := Nat.le_mul_of_pos_right A.length (List.length_pos_iff.2 hC)
    exact ⟨Nat.le_trans this a1, by rw [List.foldl_cons]; omega, a3⟩
theorem prod_part {S : List (List (List Tm))} (h : ∀ C ∈ S, C ≠ []) (k : Nat) : ((S.take k).foldl prodC [[]]).length ≤ (S.foldl prodC [[]]).length ∧ maxL ((S.take k).foldl prodC [[]]) ≤ maxL (S.foldl prodC [[]]) := by
  have h1 := (prod_up (S.take k) [[]] (fun C hC => h C (List.mem_of_mem_take hC)) (by simp)).2.2
  obtain ⟨a1, a2, _⟩ := prod_up (S.drop k) ((S.take k).foldl prodC [[]]) (fun C hC => h C (List.mem_of_mem_drop hC)) h1
  rw [← List.foldl_append, List.take_append_drop] at a1 a2
  exact ⟨a1, a2⟩
/-! ### Terms that are too large -/
def larT (t : Tm) : Bool := decide (largeE t ≠ 0)
def larC (C : List (List Tm)) : Bool := C.flatten.any larT
def larW (l : List Nd) (w : WayT) : Bool := (reachW l w).any fun v => larC (casW l v)
theorem larW_eq {l : List Nd} (hd : KidsDown l) {i : Nat} {n : Nd} (hn : l[i]? = some n) (b : Bool) : larW l ((i : Int), b) = (larC (casW l ((i : Int), b)) || n.kids.any fun x => larW l (x, b != decide (n.kind = 2))) := by
  have e : (n.kids.flatMap fun x => reachFX l i (x, b != decide (n.kind = 2))) = n.kids.flatMap fun x => reachW l (x, b != decide (n.kind = 2)) := by
    rw [List.flatMap_def, List.flatMap_def]
    congr 1
    refine List.map_congr_left fun x hx => ?_
    have := hd _ _ hn x hx
    exact reachF_st hd _ _ _ (by simp only; omega) (by simp only; omega)
  have r : reachW l ((i : Int), b) = ((i : Int), b) :: n.kids.flatMap fun x => reachW l (x, b != decide (n.kind = 2)) := by
    rw [reachW]
    simp only [Int.toNat_natCast, reachFX, hn, e]
  rw [larW, r, List.any_cons, List.any_flatMap]
  rfl
/-- What the memory of lists may be. -/
def MemoL (l : List Nd) (m : List (WayT × AV)) (lar : Bool) : Prop := ∀ p ∈ m, p.2 = slC (casW l p.1) ∧ (larW l p.1 = true → lar = true)
theorem MemoL.add {l : List Nd} {m : List (WayT × AV)} {lar lar' : Bool} {w : WayT} (h : MemoL l m lar) (hb : lar = true → lar' = true) (hw : larW l w = true → lar' = true) : MemoL l (m ++ [(w, slC (casW l w))]) lar' := by
  intro p hp
  rcases List.mem_append.1 hp with hp | hp
  · exact ⟨(h p hp).1, fun hh => hb ((h p hp).2 hh)⟩
  · rw [List.mem_singleton] at hp
    subst hp
    exact ⟨rfl, hw⟩
theorem MemoL.up {l : List Nd} {m : List (WayT × AV)} {lar lar' : Bool} (h : MemoL l m lar) (hb : lar = true → lar' = true) : MemoL l m lar' := fun p hp => ⟨(h p hp).1, fun hh => hb ((h p hp).2 hh)⟩
structure MidL (l : List Nd) (i : Nat) (n : Nd) (b : Bool) (m : List (WayT × AV)) (lar : Bool) (k : Nat) (m1 : List (WayT × AV)) (lar1 : Bool) : Prop where
  memo : MemoL l m1 lar1
  up : lar = true → lar1 = true
  kids : ∀ x ∈ n.kids.take k, larW l (x, b != decide (n.kind = 2)) = true → lar1 = true
  why : lar1 = true → lar = true ∨ (n.kids.take k).any (fun x => larW l (x, b != decide (n.kind = 2))) = true
  new : ∀ p ∈ m1, p ∈ m ∨ p.1.1 < (i : Int)
theorem MidL.zero {l : List Nd} {i : Nat} {n : Nd} {b : Bool} {m : List (WayT × AV)} {lar : Bool} (h : MemoL l m lar) : MidL l i n b m lar 0 m lar :=
  ⟨h, fun h => h, fun x hx => by simp at hx, fun h => .inl h, fun p hp => .inl hp⟩
theorem MidL.succ {l : List Nd} {i : Nat} {n : Nd} {b : Bool} {m m1 m2 : List (WayT × AV)} {lar lar1 lar2 : Bool} {k : Nat} {x : Int} (h : MidL l i n b m lar k m1 lar1) (hx : n.kids[k]? = some x) (hxi : x < (i : Int)) (h1 : MemoL l m2 lar2) (h2 : lar1 = true → lar2 = true) (h3 : larW l (x, b != decide (n.kind = 2)) = true → lar2 = true) (h4 : lar2 = true → lar1 = true ∨ larW l (x, b != decide (n.kind = 2)) = true) (h5 : ∀ p ∈ m2, p ∈ m1 ∨ p.1.1 ≤ x) : MidL l i n b m lar (k + 1) m2 lar2 := by
  have e : n.kids.take (k + 1) = n.kids.take k ++ [x] := take_succ hx
  refine ⟨h1, fun hb => h2 (h.up hb), fun y hy hb => ?_, fun hb => ?_, fun p hp => ?_⟩
  · rw [e, List.mem_append, List.mem_singleton] at hy
    rcases hy with hy | rfl
    · exact h2 (h.kids y hy hb)
    · exact h3 hb
  · rw [e, List.any_append]
    rcases h4 hb with hb | hb
    · rcases h.why hb with hb | hb
      · exact .inl hb
      · exact .inr (by rw [hb, Bool.true_or])
    · exact .inr (by simp [hb])
  · rcases h5 p hp with hp | hp
    · exact h.new p hp
    · exact .inr (by omega)
/-- What is noted, once the lists are made. -/
theorem MidL.fin {l : List Nd} (hd : KidsDown l) {i : Nat} {n : Nd} (hn : l[i]? = some n) {b : Bool} {m m1 : List (WayT × AV)} {lar lar1 : Bool} {C : List (List Tm)} (h : MidL l i n b m lar n.kids.length m1 lar1) (hC : casW l ((i : Int), b) = C) :
    MemoL l m1 (lar1 || larC C) ∧ (lar = true → (lar1 || larC C) = true) ∧ (larW l ((i : Int), b) = true → (lar1 || larC C) = true) ∧ ((lar1 || larC C) = true → lar = true ∨ larW l ((i : Int), b) = true) := by
  have hk := h.kids
  have hy := h.why
  rw [List.take_length] at hk hy
  have el := larW_eq hd hn b
  rw [hC] at el
  refine ⟨h.memo.up fun e => by rw [e]; rfl, fun e => by rw [h.up e]; rfl, fun e => ?_, fun e => ?_⟩
  · rw [el, Bool.or_eq_true] at e
    rcases e with e | e
    · rw [e, Bool.or_true]
    · obtain ⟨x, hx, hb⟩ := List.any_eq_true.1 e
      rw [hk x hx hb]; rfl
  · rw [Bool.or_eq_true] at e
    rcases e with e | e
    · rcases hy e with e | e
      · exact .inl e
      · exact .inr (by rw [el, e, Bool.or_true])
    · exact .inr (by rw [el, e]; rfl)
end Go.AL

/- Cases: the walk that lists. -/
set_option linter.unusedVariables false
set_option linter.unusedSimpArgs false
namespace Go.AL
open Go.Proofs
variable {Γ : Glob}
attribute [local irreducible] codeW opsW dopsW
@[reducible] noncomputable def p224z (Γ : Glob) : Par := par Γ [5, 6, 7, 8, 9, 12, 14] [(9, [false, true]), (11, [false, true]), (1000021, [true]), (2000020, [true, false, false, true]), (2000032, [true, false, false, true]), (36, [false, false, false, false, false, false, false, true])] [(1, [0, 1, 3, 7, 15, 0, 32, 127, 255, 511, 0, 2047]), (3, [0, 1, 3, 7, 0, 31]), (9, [0, 1, 0, 7, 15, 31, 63]), (11, [0, 1, 3, 0, 11, 27, 63, 127]), (13, [0, 1, 3, 7, 0, 31]), (18, [0, 1, 3, 7, 0, 31]), (20, [0, 0, 0, 6, 14, 31, 63]), (30, [0, 1, 3, 7, 0, 31]), (32, [0, 0, 0, 6, 15, 31, 63]), (36, [0, 0, 2, 6, 14, 30, 62, 126, 254, 510, 1023, 2047, 4095])]
theorem ok224z (Γ : Glob) : FnOk (p224z Γ) 224 134 (Tryz.f224.body.getD .skip) Tryz.f224.results.toList 2 := fnOk (par_mixed _ _ _ _) Tryz.func224 rfl rfl rfl (by kernel_rfl) (Nat.le_of_ble_eq_true rfl) (by kernel_rfl)
theorem us237 : Tryz.prog.underlying 237 = some (.map 229 73) := by kernel_rfl
theorem zero73 (w : World) (σ : Sig) : ∃ v, (zeroValue 73).run Tryz.prog w = .ok v w ∧ Rep w σ (.v (.slice none 0 0)) v := by
  obtain ⟨z, hz, hzz⟩ := run_zero_tk tk73 w
  refine ⟨z, hz, ?_⟩
  have h : z = .slice none 0 0 := by
    cases z <;> simp [Value.cells] at hzz <;> simp_all
  subst h
  exact .v _
theorem nd_term {l : List Nd} {k : Nat} {t : Nd} (h : l[k]? = some t) (z : List AV) : TK.part ⟨true, 2, z⟩ (l.flatMap ndC) (k * 4 + 1) = some (tmA t.term) := by
  have hlt := lt_of_getElem? h
  have hs := rows_split ndC_len h
  have hl : (l.flatMap ndC).length = l.length * 4 := rows_length ndC_len
  have e : (l.flatMap ndC).drop (k * 4 + 1) = [slI t.term.coeffs, int t.term.const, slI t.kids] ++ (l.drop (k + 1)).flatMap ndC := by
    rw [← List.drop_drop, hs]
    rfl
  rw [part_t, if_pos (by omega), e]
  rfl
/-- What cases promises at an index. -/
def CasesAt (Γ : Glob) (f : Fm) (bc bm i : Nat) : Prop := ∀ (b : Bool) (m : List (WayT × AV)) (lar : Bool) (σ : Sig) (K : AV → Sig → Prop), badW f.nodes ((i : Int), b) = false → σ bc = some (cntRow f bm lar) → σ bm = some (.map (mapW m)) → MemoL f.nodes m lar →
  (∀ m' lar' σ', MemoL f.nodes m' lar' → (lar = true → lar' = true) → (larW f.nodes ((i : Int), b) = true → lar' = true) → (lar' = true → lar = true ∨ larW f.nodes ((i : Int), b) = true) → (∀ p ∈ m', p ∈ m ∨ p.1.1 ≤ (i : Int)) → σ' bc = some (cntRow f bm lar') → σ' bm = some (.map (mapW m')) →
    Frm bc bm σ σ' → K (slC (casW f.nodes ((i : Int), b))) σ') → ACalls Tryz.prog Γ 147 [.v (.pointer (some ⟨bc, 0, none⟩)), wayA i b] σ K
def MadeAt (Γ : Glob) (f : Fm) (bc bm i : Nat) : Prop := ∀ (b : Bool) (m : List (WayT × AV)) (lar : Bool) (σ : Sig) (K : AV → Sig → Prop), badW f.nodes ((i : Int), b) = false → σ bc = some (cntRow f bm lar) → σ bm = some (.map (mapW m)) → MemoL f.nodes m lar →
  (∀ m' lar' σ', MemoL f.nodes m' lar' → (lar = true → lar' = true) → (larW f.nodes ((i : Int), b) = true → lar' = true) → (lar' = true → lar = true ∨ larW f.nodes ((i : Int), b) = true) → (∀ p ∈ m', p ∈ m ∨ p.1.1 < (i : Int)) → σ' bc = some (cntRow f bm lar') → σ' bm = some (.map (mapW m')) →
    Frm bc bm σ σ' → K (slC (casW f.nodes ((i : Int), b))) σ') → ACalls Tryz.prog Γ 224 [.v (.pointer (some ⟨bc, 0, none⟩)), wayA i b] σ K
theorem f147 (f : Fm) (bc bm i : Nat) (hM : MadeAt Γ f bc bm i) : CasesAt Γ f bc bm i := by
  intro b m lar σ K hb hbc hbm hm hK
  have hbc' : σ bc = some (.row [int f.vars, slN f.nodes, .v (.map (some bm)), .v (.bool lar)] 4 1) := hbc
  refine acalls (ok147 Γ) ?_
  simp only [go_sem, xQ, ↓reduceIte, xA, xM, xL, xT, xE, xN, xP, xR, xS, Tryz.f147, hbc']
  cases hg : getW m (i, b) with
  | some x =>
    obtain ⟨hx, hxb⟩ := hm _ (getW_mem hg)
    dsimp only at hx
    subst hx
    refine lookB_way (a := (i, b)) us237 way229 (fun w σ => zero73 w σ) (l := m) hbm ?_
    rw [hg]
    dsimp only
    simp only [go_sem, xQ, ↓reduceIte, xA, xM, xL, xT, xE, xN, xP, xR, xS]
    exact hK m lar _ hm (fun h => h) hxb (fun h => .inl h) (fun p hp => .inl hp) hbc hbm Frm.refl
  | none =>
    refine lookB_way (a := (i, b)) us237 way229 (fun w σ => zero73 w σ) (l := m) hbm ?_
    rw [hg]
    dsimp only
    simp only [go_sem, xQ, ↓reduceIte, xA, xM, xL, xT, xE, xN, xP, xR, xS]
    refine callB_a (hM b m lar _ _ hb hbc hbm hm ?_) rfl
    intro m' lar' σ' hm' u1 u2 u3 u4 qc qm hF
    have qc' : σ' bc = some (.row [int f.vars, slN f.nodes, .v (.map (some bm)), .v (.bool lar')] 4 1) := qc
    simp only [go_sem, xQ, ↓reduceIte, xA, xM, xL, xT, xE, xN, xP, xR, xS, qc']
    refine mupB_way (a := (i, b)) us237 way229 (l := m') qm (getW_none hg u4) ?_
    simp only [go_sem, xQ, ↓reduceIte, xA, xM, xL, xT, xE, xN, xP, xR, xS]
    have hcm : ¬ bc = bm := fun e => by rw [e, qm] at qc; cases qc
    refine hK _ lar' _ (hm'.add (fun h => h) u2) u1 u2 u3 (fun p hp => ?_) ?_ (upd_same _ _ _) (hF.own (.inr rfl) _)
    · rcases List.mem_append.1 hp with hp | hp
      · rcases u4 p hp with hp | hp
        · exact .inl hp
        · exact .inr (Int.le_of_lt hp)
      · rw [List.mem_singleton] at hp
        subst hp
        exact .inr (Int.le_refl _)
    · rw [upd_ne _ _ _ _ hcm]; exact qc
end Go.AL
