/- Holds of the program. -/
import Derived.Test.YtjimmpldofoimaaGreatDoorAm
import Derived.Test.YtjimmpldofoimaaGreatDoorAn
import Derived.Test.YtjimmpldofoimaaGreatDoorWb
import Derived.Test.YtjimmpldofoimaaGreatDoorXb
open Nat renaming reduceEqDiff → xQ, reduceAdd → xA, reduceMul → xM, reduceLeDiff → xL
open Int renaming reduceLT → xT, reduceLE → xE, reduceToNat → xN
open Go.AL renaming retPost_one → xP, retPost_oneN → xR, ers_at' → xS
set_option linter.unusedVariables false
set_option linter.unusedSimpArgs false
namespace Go.AL
open Go.Proofs
variable {Γ : Glob}
attribute [local irreducible] codeW opsW dopsW
def bv (b : Bool) : AV := .v (.bool b)
def slB (l : List Bool) : AV := .sl (l.map bv) l.length
theorem bv_get {l : List Bool} {k : Nat} {b : Bool} (h : l[k]? = some b) : (l.map bv)[k]? = some (.v (.bool b)) := by rw [List.getElem?_map, h]; rfl
attribute [go_sem] slB
theorem keep_others {σ0 σ σ2 : Sig} {s n : Nat} {a : AV} {cs : List AV} (hO : Others a σ σ2) (hG : Grow σ0 σ s a cs n) : Keep (KD noD) σ σ2 := fun b x hb hx => by
  rw [hO b ?_ (by rw [hb]; simp)]
  · exact hb
  · intro s1 o m e
    rcases hG with ⟨h, _⟩ | ⟨b', c, h0, h1, h2, h3⟩
    · rcases h with rfl | rfl <;> cases e
    · rw [e] at h0
      cases h0
      rw [h2] at hb
      cases hb
      rcases hx with h | h <;> exact h
theorem f139 (l : List Int) (hl : Fits l.length) (fv : AV) (g : Int → Bool) (σ : Sig) (hg : ∀ x ∈ l, ∀ σ' : Sig, (∀ b, σ b ≠ none → σ' b = σ b) → ∀ K : AV → Sig → Prop, K (.v (.bool (g x))) σ' → callB Tryz.prog Γ fv [int x] σ' K) :
    ACalls Tryz.prog Γ 139 [slI l, fv] σ fun r σ' => r = slB (l.map g) ∧ σ' = σ := by
  refine pcallsAt (ok139 Γ) ?_
  simp only [go_sem, xQ, ↓reduceIte, xA, xM, xL, xT, xE, xN, xP, xR, xS, Tryz.f139]
  refine SemC.loopK mixed l.length (fun k ρ σ' ds => Drop σ' σ ∧ ds = [] ∧ ρ 1 = fv ∧ ρ 8 = slI l ∧ ρ 9 = int l.length ∧ ρ 10 = int k ∧ Grow σ σ' 1 (ρ 5) (((l.take k).map g).map bv) k ∧ ∀ b, σ b ≠ none → σ' b = σ b) (by kernel_rfl) ⟨.refl _, rfl, rfl, rfl, rfl, rfl, .nil _ _ _, fun _ _ => rfl⟩ ?_
  rintro k ρ σ' ds hk ⟨hD, rfl, h1, h8, h9, h10, hG, hE⟩
  rcases get_or_end l k hk with ⟨x, hx, hlt, hd⟩ | rfl
  · simp only [go_sem, xQ, ↓reduceIte, xA, xM, xL, xT, xE, xN, xP, xR, xS, h1, h8, h9, h10, hlt, hx]
    refine hg x (mem_of_get hx) _ hE _ ?_
    simp only [go_sem, xQ, ↓reduceIte, xA, xM, xL, xT, xE, xN, xP, xR, xS, h1, h8, h9, h10]
    refine appB_sl (appT_sl el211 tk4 by4 el211 (by decide) rfl (by decide)) hD hG rfl rfl (by omega) (fun a' σ2 hD2 hO hG2 => ?_)
    simp only [go_sem, xQ, ↓reduceIte, xA, xM, xL, xT, xE, xN, xP, xR, xS, h1, h8, h9, h10]
    refine ⟨hD2, by rw [wrap_succ _ (by omega)], ?_, fun b hb => ?_⟩
    · rw [take_succ hx]
      simpa [bv] using hG2
    · rw [hO b ?_ (by rw [hE b hb]; exact hb)]
      · exact hE b hb
      · intro s1 o m e
        rcases hG with ⟨h, _⟩ | ⟨b', c, h0, h1, h2, h3⟩
        · rcases h with h | h <;> rw [h] at e <;> cases e
        · rw [h0] at e
          cases e
          exact hb h1
  · simp only [go_sem, xQ, ↓reduceIte, xA, xM, xL, xT, xE, xN, xP, xR, xS, h8, h9, h10, Nat.lt_irrefl]
    have := hG.retP hD
    rw [List.take_length] at this
    simpa [slB] using this
def idxX {α : Type} (g : α → Bool) : Nat → List α → Int
  | _, [] => -1
  | k, x :: l => if g x then (k : Int) else idxX g (k + 1) l
theorem idxX_any {α : Type} (g : α → Bool) (k : Nat) (l : List α) : decide (0 ≤ idxX g k l) = l.any g := by
  induction l generalizing k with
  | nil => simp [idxX]
  | cons x l ih =>
    rw [List.any_cons, idxX]
    cases h : g x with
    | true => simp
    | false => simpa using ih (k + 1)
theorem f321 (l : List Bool) (hl : Fits l.length) (v : Bool) : PCalls Tryz.prog Γ 321 [slB l, .v (.bool v)] (int (idxX (fun b => v == b) 0 l)) := by
  refine pcalls (ok321 Γ) fun σ => ?_
  simp only [go_sem, xQ, ↓reduceIte, xA, xM, xL, xT, xE, xN, xP, xR, xS, Tryz.f321]
  refine SemC.loopK mixed l.length (fun k ρ σ' ds => σ' = σ ∧ ds = [] ∧ ρ 0 = slB l ∧ ρ 1 = .v (.bool v) ∧ ρ 7 = int l.length ∧ ρ 8 = int k ∧ idxX (fun b => v == b) 0 l = idxX (fun b => v == b) k (l.drop k)) (by kernel_rfl) ⟨rfl, rfl, rfl, rfl, rfl, rfl, rfl⟩ ?_
  rintro k ρ σ' ds hk ⟨rfl, rfl, h0, h1, h7, h8, hz⟩
  rcases get_or_end l k hk with ⟨x, hx, hlt, hd⟩ | hk
  · rw [hd, idxX] at hz
    cases hb : (v == x) with
    | true =>
      rw [hb] at hz
      simp only [go_sem, xQ, ↓reduceIte, xA, xM, xL, xT, xE, xN, xP, xR, xS, h0, h1, h7, h8, hlt, ↓bv_get hx, hb]
      exact retP_eq (by rw [hz]; rfl)
    | false =>
      rw [hb] at hz
      simp only [go_sem, xQ, ↓reduceIte, xA, xM, xL, xT, xE, xN, xP, xR, xS, h0, h1, h7, h8, hlt, ↓bv_get hx, hb]
      exact ⟨by rw [wrap_succ _ (by omega)], hz⟩
  · subst hk
    rw [List.drop_length, idxX] at hz
    simp only [go_sem, xQ, ↓reduceIte, xA, xM, xL, xT, xE, xN, xP, xR, xS, h0, h1, h7, h8, Nat.lt_irrefl]
    exact retP_eq (by rw [hz])
theorem f319 (l : List Bool) (hl : Fits l.length) (v : Bool) : PCalls Tryz.prog Γ 319 [slB l, .v (.bool v)] (.v (.bool (l.any fun b => v == b))) := by
  refine pcalls (ok319 Γ) fun σ => ?_
  simp only [go_sem, xQ, ↓reduceIte, xA, xM, xL, xT, xE, xN, xP, xR, xS, Tryz.f319]
  refine callB_use (f321 l hl v) rfl ?_
  simp only [go_sem, xQ, ↓reduceIte, xA, xM, xL, xT, xE, xN, xP, xR, xS]
  exact retP_eq (by rw [idxX_any])
theorem f317 (b : Bool) (l : List Bool) : PCalls Tryz.prog Γ 317 [slB (b :: l)] (.v (.bool (!b))) := by
  have h1 : (0 : Int) < ((l.length + 1 : Nat) : Int) := by omega
  refine pcalls (ok317 Γ) fun σ => ?_
  simp only [go_sem, xQ, ↓reduceIte, xA, xM, xL, xT, xE, xN, xP, xR, xS, Tryz.f317, h1, List.length_cons, List.map_cons, bv, List.getElem?_cons_zero]
theorem f318 (l : List Bool) (hl : Fits l.length) : PCalls Tryz.prog Γ 318 [slB l] (.v (.bool (!(l.any fun b => false == b)))) := by
  refine pcalls (ok318 Γ) fun σ => ?_
  simp only [go_sem, xQ, ↓reduceIte, xA, xM, xL, xT, xE, xN, xP, xR, xS, Tryz.f318]
  refine callB_use (f319 l hl false) rfl ?_
  simp only [go_sem, xQ, ↓reduceIte, xA, xM, xL, xT, xE, xN, xP, xR, xS]
theorem f320 (l : List Bool) (hl : Fits l.length) : PCalls Tryz.prog Γ 320 [slB l] (.v (.bool (l.any fun b => true == b))) := by
  refine pcalls (ok320 Γ) fun σ => ?_
  simp only [go_sem, xQ, ↓reduceIte, xA, xM, xL, xT, xE, xN, xP, xR, xS, Tryz.f320]
  refine callB_use (f319 l hl true) rfl ?_
  simp only [go_sem, xQ, ↓reduceIte, xA, xM, xL, xT, xE, xN, xP, xR, xS]
theorem f140 (acc : List Bool) (k : Nat) (b : Bool) (hk : acc[k]? = some b) (b7 : Nat) (a : AV) (σ0 σ : Sig) (h7 : σ b7 = some (.row [a] 1 1)) (hG : Grow σ0 σ 1 a (acc.map bv) acc.length) : ACalls Tryz.prog Γ 140 [int k, .v (.pointer (some ⟨b7, 0, none⟩))] σ fun r σ' => r = .v (.bool b) ∧ σ' = σ := by
  have hlt := lt_of_getElem? hk
  rcases hG with ⟨_, h, _⟩ | ⟨b0, c, rfl, h1, h2, h3⟩
  · simp at h
    rw [h] at hk
    simp at hk
  · have hg := bv_get hk
    refine pcallsAt (ok140 Γ) ?_
    simp only [go_sem, xQ, ↓reduceIte, xA, xM, xL, xT, xE, xN, xP, xR, xS, Tryz.f140, h7, h2, hlt, hg]
/-- What kids hold. -/
def kidsB (acc : List Bool) (kids : List Int) : List Bool := kids.map fun k => (acc[k.toNat]?).getD false
def nodeB (vs : List Int) (acc : List Bool) (n : Nd) : Bool :=
  if n.kind = 0 then decide (0 ≤ valueR n.term vs) else if n.kind = 1 then decide (valueR n.term vs = 0)
  else if n.kind = 2 then !((kidsB acc n.kids).headD false) else if n.kind = 3 then !((kidsB acc n.kids).any fun b => false == b) else (kidsB acc n.kids).any fun b => true == b
def truthF (vs : List Int) : List Nd → List Bool → List Bool
  | [], acc => acc
  | n :: l, acc => truthF vs l (acc ++ [nodeB vs acc n])
def holdsB (f : Fm) (vs : List Int) : Bool := (truthF vs f.nodes []).getLastD false
structure NodeOk (n : Nd) (i : Nat) (vars : Int) : Prop where
  lo : 0 ≤ n.kind
  hi : n.kind ≤ 4
  term : n.kind ≤ 1 → checkTermE n.term vars = 0 ∧ (n.term.coeffs.length : Int) = vars ∧ n.kids = []
  form : 2 ≤ n.kind → n.term = ⟨[], 0⟩ ∧ n.kids.length ≤ 200 ∧ (n.kind = 2 → n.kids.length = 1) ∧ ∀ k ∈ n.kids, 0 ≤ k ∧ k < i
theorem term_len {t : Tm} {n : Int} (h : checkTermE t n = 0) : (t.coeffs.length : Int) = n := by
  have h1 := (whenE_zero (by decide)).1 ((firstE_zero _).1 h (whenE (decide (¬ (t.coeffs.length : Int) = n)) 2) (by simp))
  simpa using h1
theorem node_ok {n : Nd} {i : Nat} {vars : Int} (h : nodeE n i vars = 0) : NodeOk n i vars := by
  unfold nodeE at h
  split at h
  · cases h
  · rename_i hk
    split at h
    · rename_i h1
      have h2 := (firstE_zero _).1 h
      have h3 := h2 (checkTermE n.term vars) (by simp)
      have h4 := (whenE_zero (by decide)).1 (h2 (whenE (decide ((0 : Int) < n.kids.length)) 2) (by simp))
      refine ⟨by omega, by omega, fun _ => ⟨h3, term_len h3, ?_⟩, fun h => by omega⟩
      simp at h4
      exact h4
    · rename_i h1
      have h2 := (firstE_zero _).1 h
      have h3 := (firstE_zero _).1 (h2 (formE n) (by simp))
      have a := (whenE_zero (by decide)).1 (h3 (whenE (decide ((0 : Int) < n.term.coeffs.length) || !decide (n.term.const = 0)) 1) (by simp))
      have b := (whenE_zero (by decide)).1 (h3 (whenE (decide ((200 : Int) < n.kids.length)) 5) (by simp))
      have c := (whenE_zero (by decide)).1 (h3 (whenE (decide (n.kind = 2) && !decide ((n.kids.length : Int) = 1)) 2) (by simp))
      have d := (firstE_zero _).1 (h2 (firstE (n.kids.map fun k => earlierE k i)) (by simp))
      refine ⟨by omega, by omega, fun h => by omega, fun _ => ⟨?_, ?_, fun h2 => ?_, fun k hk => ?_⟩⟩
      · simp at a
        obtain ⟨nk, ⟨tc, tk⟩, nn⟩ := n
        simp only at a ⊢
        rw [a.1, a.2]
      · simp at b; omega
      · simp [h2] at c; omega
      · have := d _ (List.mem_map_of_mem hk)
        have := (whenE_zero (by decide)).1 this
        simp at this
        omega
theorem nodes_zero {vars : Int} : ∀ (l : List Nd) (k : Nat), nodesE vars k l = 0 → ∀ i n, l[i]? = some n → nodeE n ((k + i : Nat) : Int) vars = 0
  | [], _, _, _, _, h => by simp at h
  | n :: l, k, h, i, m, hm => by
    rw [nodesE] at h
    split at h
    · rename_i h1
      cases i with
      | zero => simp at hm; subst hm; exact h1
      | succ i =>
        have := nodes_zero l (k + 1) h i m (by simpa using hm)
        rwa [show k + 1 + i = k + (i + 1) by omega] at this
    · rename_i h1
      exact absurd h h1
theorem check_ok {f : Fm} (h : checkE f = 0) : f.nodes ≠ [] ∧ f.nodes.length ≤ 200 ∧ 0 ≤ f.vars ∧ f.vars ≤ 8 ∧ ∀ i n, f.nodes[i]? = some n → NodeOk n i f.vars := by
  unfold checkE at h
  split at h
  · rename_i h0
    have h1 := (firstE_zero _).1 h0
    have a := h1 (withinE f.vars 0 8) (by simp)
    have b := (whenE_zero (by decide)).1 (h1 (whenE (decide ((f.nodes.length : Int) = 0)) 10) (by simp))
    have c := (whenE_zero (by decide)).1 (h1 (whenE (decide ((200 : Int) < (f.nodes.length : Int))) 5) (by simp))
    simp at b c
    unfold withinE at a
    split at a
    · cases a
    · refine ⟨b, by omega, by omega, by omega, fun i n hn => ?_⟩
      have := nodes_zero f.nodes 0 h i n hn
      rw [Nat.zero_add] at this
      exact node_ok this
  · rename_i h0
    exact absurd h h0
end Go.AL

/- Holds. -/
set_option linter.unusedVariables false
set_option linter.unusedSimpArgs false
namespace Go.AL
open Go.Proofs
variable {Γ : Glob}
attribute [local irreducible] codeW opsW dopsW
@[reducible] noncomputable def p41z (Γ : Glob) : Par := par Γ [7, 8, 37] [(1, [false, true]), (10, [false, false, false, false, false, true]), (12, [false, false, false, false, false, true]), (8, [false, false, false, false, false, false, false, false, false, false, false, true, true])] [(1, [0, 1, 0, 0, 8, 31, 63, 127, 255]), (10, [0, 0, 2, 6, 0, 30, 62, 126, 255, 511]), (12, [0, 0, 2, 6, 0, 30, 62, 126, 255, 511]), (8, [0, 0, 2, 6, 14, 30, 62, 0, 128, 384, 0, 1920, 4094, 8190, 16383, 32767])]
theorem ok41z (Γ : Glob) : FnOk (p41z Γ) 41 69 (Tryz.f41.body.getD .skip) Tryz.f41.results.toList 2 := fnOk (par_mixed _ _ _ _) Tryz.func41 rfl rfl rfl (by kernel_rfl) (Nat.le_of_ble_eq_true rfl) (by kernel_rfl)
theorem bools_ne {σ0 σ : Sig} {s n : Nat} {a : AV} {cs : List AV} (h : Grow σ0 σ s a cs n) (l : List Bool) : l.map bv ≠ [a] := fun e => by
  cases l with
  | nil => cases e
  | cons b l =>
    have := (List.cons.inj e).1
    rcases h with ⟨h, _⟩ | ⟨b', c, h0, h1, h2, h3⟩
    · rcases h with h | h <;> rw [h] at this <;> cases this
    · rw [h0] at this; cases this
def holdsE (f : Fm) (vs : List Int) : Int := firstE [checkE f, valuesE vs f.vars]
set_option maxHeartbeats 1000000 in
theorem f41 (hG' : Γ 0 = some sortsT) (f : Fm) (vs : List Int) (hl : Fits f.nodes.length) (hc : ∀ n ∈ f.nodes, NdFit n) (hvF : Fits vs.length) : PCalls Tryz.prog Γ 41 [fmA f, slI vs] (.tup [.v (.bool (if holdsE f vs = 0 then holdsB f vs else false)), int (holdsE f vs)]) := by
  have e20 : ((2 : Int) = 0) = False := eq_false (by decide)
  have e21 : ((2 : Int) = 1) = False := eq_false (by decide)
  have e30 : ((3 : Int) = 0) = False := eq_false (by decide)
  have e31 : ((3 : Int) = 1) = False := eq_false (by decide)
  have e40 : ((4 : Int) = 0) = False := eq_false (by decide)
  have e41 : ((4 : Int) = 1) = False := eq_false (by decide)
  refine pcalls (ok41z Γ) fun σ => ?_
  simp only [go_sem, xQ, ↓reduceIte, xA, xM, xL, xT, xE, xN, xP, xR, xS, Tryz.f41]
  refine dcallB_use (f47 hG' f hl hc) rfl ?_
  simp only [go_sem, xQ, ↓reduceIte, xA, xM, xL, xT, xE, xN, xP, xR, xS]
  refine callB_use (f136 vs _ hvF) rfl ?_
  simp only [go_sem, xQ, ↓reduceIte, xA, xM, xL, xT, xE, xN, xP, xR, xS]
  refine callB_use (f135 [_, _] (by simp)) rfl ?_
  by_cases h : holdsE f vs = 0
  · have h' := h
    unfold holdsE at h'
    have hE1 := (firstE_zero _).1 h'
    obtain ⟨hne, hl200, hv0, hv8, hok⟩ := check_ok (hE1 (checkE f) (by simp))
    have hvs : (vs.length : Int) = f.vars := by
      have := (whenE_zero (by decide)).1 ((firstE_zero _).1 (hE1 (valuesE vs f.vars) (by simp)) (whenE (!decide ((vs.length : Int) = f.vars)) 2) (by simp))
      simpa using this
    rw [h, if_pos rfl]
    simp only [go_sem, xQ, ↓reduceIte, xA, xM, xL, xT, xE, xN, xP, xR, xS, h']
    intro b7 hb7'
    simp only [go_sem, xQ, ↓reduceIte, xA, xM, xL, xT, xE, xN, xP, xR, xS, h']
    refine callB_use (f137 f) rfl ?_
    simp only [go_sem, xQ, ↓reduceIte, xA, xM, xL, xT, xE, xN, xP, xR, xS]
    have hDs : Drop (upd σ b7 (some (.row [.v (.slice none 0 0)] 1 1))) σ := (Drop.refl σ).upd hb7'
    refine SemC.rangeL (xs := nodesX f.nodes) (D := noD) (pre := fun _ => True) (f := 220) (first := []) (captured := [.pp (fmC f) 0]) mixed (by simp only [go_sem, xQ, ↓reduceIte, xA, xM, xL, xT, xE, xN, xP, xR, xS]) (f220 f hl) (by decide) (by kernel_rfl) (by kernel_rfl) noD_ctl (fun _ _ _ _ _ _ => trivial)
      (fun k σ' => ∃ acc a, σ' b7 = some (.row [a] 1 1) ∧ Grow σ σ' 1 a (acc.map bv) k ∧ Drop σ' σ ∧ (truthF vs f.nodes [] = truthF vs (f.nodes.drop k) acc ∧ acc.length = k))
      (fun e σ' => False)
      (fun k x ρ1 σ1 => ∃ n b8 acc a, (f.nodes[k]? = some n ∧ ρ1 2 = .pp (fmC f) 0 ∧ ρ1 3 = .pp [slI vs] 0 ∧ ρ1 7 = .v (.pointer (some ⟨b7, 0, none⟩)) ∧ ρ1 8 = .v (.pointer (some ⟨b8, 0, none⟩)) ∧ truthF vs f.nodes [] = truthF vs (f.nodes.drop k) acc ∧ acc.length = k) ∧ σ1 b8 = some (.row (atC n k) 5 1) ∧ σ1 b7 = some (.row [a] 1 1) ∧ Grow σ σ1 1 a (acc.map bv) k ∧ Drop σ1 σ)
      (by (intros; repeat' (first | exact Closed.row (fun h => h) | exact Closed.grow (fun _ h => h) | exact Closed.drop hDs (fun _ _ _ h => h) | exact Closed.map (fun h => h) | exact Closed.const _ | refine Closed.ex fun _ => ?_ | refine Closed.and ?_ ?_))) (by (intros; repeat' (first | exact Closed.row (fun h => h) | exact Closed.grow (fun _ h => h) | exact Closed.drop hDs (fun _ _ _ h => h) | exact Closed.map (fun h => h) | exact Closed.const _ | refine Closed.ex fun _ => ?_ | refine Closed.and ?_ ?_))) (by (intros; repeat' (first | exact Closed.row (fun h => h) | exact Closed.grow (fun _ h => h) | exact Closed.drop hDs (fun _ _ _ h => h) | exact Closed.map (fun h => h) | exact Closed.const _ | refine Closed.ex fun _ => ?_ | refine Closed.and ?_ ?_)))
      ?_ ?_ ?_ ?_ ?_
    · exact ⟨[], _, by simp only [go_sem, xQ, ↓reduceIte, xA, xM, xL, xT, xE, xN, xP, xR, xS], .nil _ _ _, (Drop.refl σ).upd hb7', rfl, rfl⟩
    · rintro k x E σ' l hE hx ⟨acc, a, hs7, hG, hD, hz, hacc⟩
      obtain ⟨n, hn, rfl⟩ := nodesX_get hx
      have e2 : E 2 = .pp (fmC f) 0 := by rw [hE 2 (by decide)]; simp only [go_sem, xQ, ↓reduceIte, xA, xM, xL, xT, xE, xN, xP, xR, xS]
      have e3 : E 3 = .pp [slI vs] 0 := by rw [hE 3 (by decide)]; simp only [go_sem, xQ, ↓reduceIte, xA, xM, xL, xT, xE, xN, xP, xR, xS]
      have e7 : E 7 = .v (.pointer (some ⟨b7, 0, none⟩)) := by rw [hE 7 (by decide)]; simp only [go_sem, xQ, ↓reduceIte, xA, xM, xL, xT, xE, xN, xP, xR, xS]
      simp only [go_sem, xQ, ↓reduceIte, xA, xM, xL, xT, xE, xN, xP, xR, xS, e2, e3, e7]
      intro b8 hb8
      have n8 : ¬ b7 = b8 := nn hb8 hs7
      simp only [go_sem, xQ, ↓reduceIte, xA, xM, xL, xT, xE, xN, xP, xR, xS, e2, e3, e7, n8]
      refine ⟨(Keep.refl _ _).upd (keep_none hb8), n, b8, acc, a, ?_⟩
      simp only [go_sem, xQ, ↓reduceIte, xA, xM, xL, xT, xE, xN, xP, xR, xS, e2, e3, e7, n8, hn, hs7]
      exact ⟨⟨hz, hacc⟩, (hG.updF hb8), hD.upd (hD.free hb8)⟩
    · rintro k x ρ1 σ' l hx ⟨n, b8, acc, a, ⟨hn, h2, h3, h7, h8, hz, hacc⟩, hs8, hs7, hG, hD⟩
      have n8 : ¬ b7 = b8 := rn hs7 hs8 (by decide)
      have hk := hok k n hn
      have hk200 := lt_of_getElem? hn
      have hcn := hc n (mem_of_get hn)
      have k10 : ((1 : Int) = 0) = False := eq_false (by decide)
      by_cases hk0 : n.kind = 0
      · have ht := (hk.term (by omega)).2.1
        simp only [go_sem, xQ, ↓reduceIte, xA, xM, xL, xT, xE, xN, xP, xR, xS, h2, h3, h7, h8, hs8, hs7, n8, hk0]
        refine dcallB_use (f138 n.term vs hvF (by omega)) rfl ?_
        simp only [go_sem, xQ, ↓reduceIte, xA, xM, xL, xT, xE, xN, xP, xR, xS, h2, h3, h7, h8, hs8, hs7]
        refine appB_sl (appT_sl el211 tk4 by4 el211 (by decide) rfl (by decide)) hD hG rfl rfl (by omega) (fun a' σ2 hD2 hO hG2 => ?_)
        have e7 : σ2 b7 = some (.row [a] 1 1) := by
          rw [hO b7 (hG.neC hs7 (bools_ne hG acc)) (by rw [hs7]; simp)]; exact hs7
        have hc2 := hG2.cellsX
        have ho2 := hG2.oneX
        simp only [go_sem, xQ, ↓reduceIte, xA, xM, xL, xT, xE, xN, xP, xR, xS, h2, h3, h7, h8, e7, hc2, ho2]
        refine ⟨(keep_others hO hG).trans ((Keep.refl _ _).upd (keep_row e7 (fun h => h))), acc ++ [nodeB vs acc n], a', by simp only [go_sem, xQ, ↓reduceIte, xA, xM, xL, xT, xE, xN, xP, xR, xS], ?_, hD2.upd hb7', by rw [hz, drop_of_get hn, truthF], by simp [hacc]⟩
        have hnb : nodeB vs acc n = decide (0 ≤ valueR n.term vs) := by unfold nodeB; rw [if_pos hk0]
        rw [hnb]
        have hG3 : Grow σ σ2 1 a' ((acc ++ [decide (0 ≤ valueR n.term vs)]).map bv) (k + 1) := by simpa [bv] using hG2
        exact hG3.updW (hG3.neC e7 (bools_ne hG _)) _
      · by_cases hk1 : n.kind = 1
        · have ht := (hk.term (by omega)).2.1
          simp only [go_sem, xQ, ↓reduceIte, xA, xM, xL, xT, xE, xN, xP, xR, xS, h2, h3, h7, h8, hs8, hs7, n8, hk1, k10]
          refine dcallB_use (f138 n.term vs hvF (by omega)) rfl ?_
          simp only [go_sem, xQ, ↓reduceIte, xA, xM, xL, xT, xE, xN, xP, xR, xS, h2, h3, h7, h8, hs8, hs7]
          refine appB_sl (appT_sl el211 tk4 by4 el211 (by decide) rfl (by decide)) hD hG rfl rfl (by omega) (fun a' σ2 hD2 hO hG2 => ?_)
          have e7 : σ2 b7 = some (.row [a] 1 1) := by
            rw [hO b7 (hG.neC hs7 (bools_ne hG acc)) (by rw [hs7]; simp)]; exact hs7
          have hc2 := hG2.cellsX
          have ho2 := hG2.oneX
          simp only [go_sem, xQ, ↓reduceIte, xA, xM, xL, xT, xE, xN, xP, xR, xS, h2, h3, h7, h8, e7, hc2, ho2]
          refine ⟨(keep_others hO hG).trans ((Keep.refl _ _).upd (keep_row e7 (fun h => h))), acc ++ [nodeB vs acc n], a', by simp only [go_sem, xQ, ↓reduceIte, xA, xM, xL, xT, xE, xN, xP, xR, xS], ?_, hD2.upd hb7', by rw [hz, drop_of_get hn, truthF], by simp [hacc]⟩
          have hnb : nodeB vs acc n = decide (valueR n.term vs = 0) := by unfold nodeB; rw [if_neg hk0, if_pos hk1]
          rw [hnb]
          have hG3 : Grow σ σ2 1 a' ((acc ++ [decide (valueR n.term vs = 0)]).map bv) (k + 1) := by simpa [bv] using hG2
          exact hG3.updW (hG3.neC e7 (bools_ne hG _)) _
        · obtain ⟨hterm, hk200', hk1', hkr⟩ := hk.form (by have := hk.lo; omega)
          have hcall : ∀ τ : Sig, (∀ b x, σ' b = some x → τ b = some x) → ∀ K : AV → Sig → Prop, K (slB (kidsB acc n.kids)) τ → callB Tryz.prog Γ (.fn (.func 139) [] []) [slI n.kids, .fn (.func 140) [] [.v (.pointer (some ⟨b7, 0, none⟩))]] τ K := fun τ heτ K hK => by
            refine callB_a (ACalls.mono (f139 n.kids hcn.2 _ (fun k => (acc[k.toNat]?).getD false) τ ?_) (fun r σ2 ⟨hr, hs⟩ => by subst hr; subst hs; exact hK)) rfl
            intro x hx σ2 hext0 K hK
            have hext : ∀ b, σ' b ≠ none → σ2 b = σ' b := fun b hb => by
              cases h : σ' b with
              | none => exact absurd h hb
              | some y => rw [hext0 b (by rw [heτ b y h]; simp), heτ b y h]
            obtain ⟨hxr0, hxr⟩ : 0 ≤ x ∧ x < (k : Int) := hkr x hx
            obtain ⟨b, hb⟩ : ∃ b, acc[x.toNat]? = some b := ⟨acc[x.toNat]'(by omega), List.getElem?_eq_getElem _⟩
            have hxe : x = ((x.toNat : Nat) : Int) := by omega
            refine callB_a (args' := [int (x.toNat : Nat), .v (.pointer (some ⟨b7, 0, none⟩))]) (ACalls.mono (f140 acc x.toNat b hb b7 a σ σ2 (by rw [hext b7 (by rw [hs7]; simp)]; exact hs7) (by rw [hacc]; exact hG.frame fun b _ h => hext b h)) (fun r σ3 ⟨hr, hs⟩ => by subst hr; subst hs; simpa [hb] using hK)) (by rw [← hxe]; rfl)
          have hkl : (kidsB acc n.kids).length = n.kids.length := by simp [kidsB]
          have hcases : n.kind = 2 ∨ n.kind = 3 ∨ n.kind = 4 := by have := hk.lo; have := hk.hi; omega
          rcases hcases with hk2 | hk2 | hk2
          · obtain ⟨x, hx⟩ : ∃ x, n.kids = [x] := List.length_eq_one_iff.1 (hk1' hk2)
            obtain ⟨b, hb⟩ : ∃ b, kidsB acc n.kids = [b] := ⟨_, by rw [hx]; rfl⟩
            rw [hb] at hcall
            simp only [go_sem, xQ, ↓reduceIte, xA, xM, xL, xT, xE, xN, xP, xR, xS, h2, h3, h7, h8, hs8, hs7, n8, hk2, e20, e21, e30, e31, e40, e41, hG', sortsT]
            refine ⟨_, hcall, ?_⟩
            simp only [go_sem, xQ, ↓reduceIte, xA, xM, xL, xT, xE, xN, xP, xR, xS, h2, h3, h7, h8, hs8, hs7, n8, hk2, hG', sortsT]
            refine dcallB_use (f317 b []) rfl ?_
            simp only [go_sem, xQ, ↓reduceIte, xA, xM, xL, xT, xE, xN, xP, xR, xS, h2, h3, h7, h8, hs8, hs7]
            refine appB_sl (appT_sl el211 tk4 by4 el211 (by decide) rfl (by decide)) hD hG rfl rfl (by omega) (fun a' σ2 hD2 hO hG2 => ?_)
            have e7 : σ2 b7 = some (.row [a] 1 1) := by
              rw [hO b7 (hG.neC hs7 (bools_ne hG acc)) (by rw [hs7]; simp)]; exact hs7
            have hc2 := hG2.cellsX
            have ho2 := hG2.oneX
            simp only [go_sem, xQ, ↓reduceIte, xA, xM, xL, xT, xE, xN, xP, xR, xS, h2, h3, h7, h8, e7, hc2, ho2]
            refine ⟨(keep_others hO hG).trans ((Keep.refl _ _).upd (keep_row e7 (fun h => h))), acc ++ [nodeB vs acc n], a', by simp only [go_sem, xQ, ↓reduceIte, xA, xM, xL, xT, xE, xN, xP, xR, xS], ?_, hD2.upd hb7', by rw [hz, drop_of_get hn, truthF], by simp [hacc]⟩
            have hnb : nodeB vs acc n = !b := by unfold nodeB; rw [if_neg hk0, if_neg hk1, if_pos hk2, hb]; rfl
            rw [hnb]
            have hG3 : Grow σ σ2 1 a' ((acc ++ [!b]).map bv) (k + 1) := by simpa [bv] using hG2
            exact hG3.updW (hG3.neC e7 (bools_ne hG _)) _
          · simp only [go_sem, xQ, ↓reduceIte, xA, xM, xL, xT, xE, xN, xP, xR, xS, h2, h3, h7, h8, hs8, hs7, n8, hk2, e20, e21, e30, e31, e40, e41, hG', sortsT]
            refine ⟨_, hcall, ?_⟩
            simp only [go_sem, xQ, ↓reduceIte, xA, xM, xL, xT, xE, xN, xP, xR, xS, h2, h3, h7, h8, hs8, hs7, n8, hk2, hG', sortsT]
            refine dcallB_use (f318 _ (by rw [hkl]; exact hcn.2)) rfl ?_
            simp only [go_sem, xQ, ↓reduceIte, xA, xM, xL, xT, xE, xN, xP, xR, xS, h2, h3, h7, h8, hs8, hs7]
            refine appB_sl (appT_sl el211 tk4 by4 el211 (by decide) rfl (by decide)) hD hG rfl rfl (by omega) (fun a' σ2 hD2 hO hG2 => ?_)
            have e7 : σ2 b7 = some (.row [a] 1 1) := by
              rw [hO b7 (hG.neC hs7 (bools_ne hG acc)) (by rw [hs7]; simp)]; exact hs7
            have hc2 := hG2.cellsX
            have ho2 := hG2.oneX
            simp only [go_sem, xQ, ↓reduceIte, xA, xM, xL, xT, xE, xN, xP, xR, xS, h2, h3, h7, h8, e7, hc2, ho2]
            refine ⟨(keep_others hO hG).trans ((Keep.refl _ _).upd (keep_row e7 (fun h => h))), acc ++ [nodeB vs acc n], a', by simp only [go_sem, xQ, ↓reduceIte, xA, xM, xL, xT, xE, xN, xP, xR, xS], ?_, hD2.upd hb7', by rw [hz, drop_of_get hn, truthF], by simp [hacc]⟩
            have hnb : nodeB vs acc n = !((kidsB acc n.kids).any fun b => false == b) := by unfold nodeB; rw [if_neg hk0, if_neg hk1, if_neg (by omega), if_pos hk2]
            rw [hnb]
            have hG3 : Grow σ σ2 1 a' ((acc ++ [!((kidsB acc n.kids).any fun b => false == b)]).map bv) (k + 1) := by simpa [bv] using hG2
            exact hG3.updW (hG3.neC e7 (bools_ne hG _)) _
          · simp only [go_sem, xQ, ↓reduceIte, xA, xM, xL, xT, xE, xN, xP, xR, xS, h2, h3, h7, h8, hs8, hs7, n8, hk2, e20, e21, e30, e31, e40, e41, hG', sortsT]
            refine ⟨_, hcall, ?_⟩
            simp only [go_sem, xQ, ↓reduceIte, xA, xM, xL, xT, xE, xN, xP, xR, xS, h2, h3, h7, h8, hs8, hs7, n8, hk2, hG', sortsT]
            refine dcallB_use (f320 _ (by rw [hkl]; exact hcn.2)) rfl ?_
            simp only [go_sem, xQ, ↓reduceIte, xA, xM, xL, xT, xE, xN, xP, xR, xS, h2, h3, h7, h8, hs8, hs7]
            refine appB_sl (appT_sl el211 tk4 by4 el211 (by decide) rfl (by decide)) hD hG rfl rfl (by omega) (fun a' σ2 hD2 hO hG2 => ?_)
            have e7 : σ2 b7 = some (.row [a] 1 1) := by
              rw [hO b7 (hG.neC hs7 (bools_ne hG acc)) (by rw [hs7]; simp)]; exact hs7
            have hc2 := hG2.cellsX
            have ho2 := hG2.oneX
            simp only [go_sem, xQ, ↓reduceIte, xA, xM, xL, xT, xE, xN, xP, xR, xS, h2, h3, h7, h8, e7, hc2, ho2]
            refine ⟨(keep_others hO hG).trans ((Keep.refl _ _).upd (keep_row e7 (fun h => h))), acc ++ [nodeB vs acc n], a', by simp only [go_sem, xQ, ↓reduceIte, xA, xM, xL, xT, xE, xN, xP, xR, xS], ?_, hD2.upd hb7', by rw [hz, drop_of_get hn, truthF], by simp [hacc]⟩
            have hnb : nodeB vs acc n = (kidsB acc n.kids).any fun b => true == b := by unfold nodeB; rw [if_neg hk0, if_neg hk1, if_neg (by omega), if_neg (by omega)]
            rw [hnb]
            have hG3 : Grow σ σ2 1 a' ((acc ++ [(kidsB acc n.kids).any fun b => true == b]).map bv) (k + 1) := by simpa [bv] using hG2
            exact hG3.updW (hG3.neC e7 (bools_ne hG _)) _
    · rintro σ' r hr' ⟨acc, a, hs7, hG, hD, hz, hacc⟩ hd
      have hlen : (nodesX f.nodes).length = f.nodes.length := by rw [nodesX, List.length_mapIdx]
      rw [hlen] at hG hz hacc
      rw [List.drop_length, truthF] at hz
      have hpos : 0 < f.nodes.length := List.length_pos_iff.2 hne
      have n1 : ¬ b7 = r := dn hd hs7
      rcases hG with ⟨_, hG, _⟩ | ⟨b0, c, rfl, hn0, hr0, hl0⟩
      · have := congrArg List.length hG
        simp at this
        rw [this] at hacc
        simp at hacc
        omega
      · have hw : IntKind.i64.wrap ((f.nodes.length : Int) - 1) = ((f.nodes.length - 1 : Nat) : Int) := by rw [wrap_i64 _ (by omega) (by omega)]; omega
        have hlt1 : f.nodes.length - 1 < f.nodes.length := by omega
        obtain ⟨b, hb⟩ : ∃ b, acc[f.nodes.length - 1]? = some b := ⟨acc[f.nodes.length - 1]'(by omega), List.getElem?_eq_getElem _⟩
        have hres : holdsB f vs = b := by
          rw [holdsB, hz, List.getLastD_eq_getLast?, List.getLast?_eq_getElem?, hacc, hb]
          rfl
        simp only [go_sem, xQ, ↓reduceIte, xA, xM, xL, xT, xE, xN, xP, xR, xS, hs7, hr0, hw, hlt1, ↓bv_get hb, hd]
        exact retP_drop (hD.ersX (un hr').2) (by rw [hres])
    · rintro e σ' r hr' hF hd
      exact hF.elim
  · have h' := h
    unfold holdsE at h'
    simp only [go_sem, xQ, ↓reduceIte, xA, xM, xL, xT, xE, xN, xP, xR, xS, h']
    exact retP_eq (by rw [if_neg h]; rfl)
end Go.AL

/- Own copies of nodes; terms added; Opposite. -/
set_option linter.unusedVariables false
set_option linter.unusedSimpArgs false
namespace Go.AL
open Go.Proofs
variable {Γ : Glob}
attribute [local irreducible] codeW opsW dopsW
theorem Grow.neS {σ0 σ : Sig} {s n b s' c' : Nat} {a : AV} {cs cs' : List AV} (h : Grow σ0 σ s a cs n) (hb : σ b = some (.row cs' s' c')) (hs : s' ≠ s) : ∀ s1 o m, a ≠ .own b s1 o m := fun s1 o m e => by
  rcases h with ⟨h, _⟩ | ⟨b', c, h0, h1, h2, h3⟩
  · rcases h with h | h <;> rw [h] at e <;> cases e
  · rw [h0] at e
    cases e
    rw [hb] at h2
    cases h2
    exact hs rfl
theorem f193 (l : List Int) (hl : Fits l.length) : PCalls Tryz.prog Γ 193 [slI l] (slI l) := by
  by_cases h : l = []
  · subst h
    refine pcalls_nil ?_ (fun a c => ?_)
    · refine pcalls (ok193 Γ) fun σ => ?_
      simp only [go_sem, xQ, ↓reduceIte, xA, xM, xL, xT, xE, xN, xP, xR, xS, Tryz.f193]
      exact ⟨.nil, Drop.refl _⟩
    · refine pcalls (ok193 Γ) fun σ => ?_
      simp only [go_sem, xQ, ↓reduceIte, xA, xM, xL, xT, xE, xN, xP, xR, xS, Tryz.f193]
      refine appB_weak weak_empty (appB_pure (appT_sl el46 tk3 by3 el46 (by decide) rfl (by decide)) (.inr rfl) (src_slI _ []) (by simp [ints]) (by omega) ?_)
      simp only [go_sem, xQ, ↓reduceIte, xA, xM, xL, xT, xE, xN, xP, xR, xS]
  · have h' : ints l ≠ [] := by simpa [ints] using h
    refine pcalls (ok193 Γ) fun σ => ?_
    simp only [go_sem, xQ, ↓reduceIte, xA, xM, xL, xT, xE, xN, xP, xR, xS, Tryz.f193, h']
    refine appB_pure (appT_sl el46 tk3 by3 el46 (by decide) rfl (by decide)) (.inr rfl) (src_slI _ l) (by simp [ints]) (by omega) ?_
    simp only [go_sem, xQ, ↓reduceIte, xA, xM, xL, xT, xE, xN, xP, xR, xS]
theorem f151 (t : Tm) (hl : Fits t.coeffs.length) : PCalls Tryz.prog Γ 151 [tmA t] (tmA t) := by
  refine pcalls (ok151 Γ) fun σ => ?_
  simp only [go_sem, xQ, ↓reduceIte, xA, xM, xL, xT, xE, xN, xP, xR, xS, Tryz.f151]
  intro b hb
  simp only [go_sem, xQ, ↓reduceIte, xA, xM, xL, xT, xE, xN, xP, xR, xS]
  refine callB_use (f193 t.coeffs hl) rfl ?_
  simp only [go_sem, xQ, ↓reduceIte, xA, xM, xL, xT, xE, xN, xP, xR, xS]
  exact retP_drop (by repeat (first | exact Drop.refl _ | assumption | refine Drop.upd ?_ (by assumption))) (rfl)
theorem f227 (k n : Int) : PCalls Tryz.prog Γ 227 [int k, .pp [int n] 0] (int (IntKind.i64.wrap (k + n))) := by
  refine pcalls (ok227 Γ) fun σ => ?_
  simp only [go_sem, xQ, ↓reduceIte, xA, xM, xL, xT, xE, xN, xP, xR, xS, Tryz.f227]
theorem f226 (l : List Int) (hl : Fits l.length) (fv : AV) (g : Int → Int) (hg : ∀ x ∈ l, DCall Tryz.prog Γ fv [int x] (int (g x))) : PCalls Tryz.prog Γ 226 [slI l, fv] (slI (l.map g)) := by
  refine pcalls (ok226 Γ) fun σ => ?_
  simp only [go_sem, xQ, ↓reduceIte, xA, xM, xL, xT, xE, xN, xP, xR, xS, Tryz.f226]
  refine SemC.loopK mixed l.length (fun k ρ σ' ds => Drop σ' σ ∧ ds = [] ∧ ρ 1 = fv ∧ ρ 8 = slI l ∧ ρ 9 = int l.length ∧ ρ 10 = int k ∧ Grow σ σ' 1 (ρ 5) (ints ((l.take k).map g)) k) (by kernel_rfl) ⟨.refl _, rfl, rfl, rfl, rfl, rfl, .nil _ _ _⟩ ?_
  rintro k ρ σ' ds hk ⟨hD, rfl, h1, h8, h9, h10, hG⟩
  rcases get_or_end l k hk with ⟨x, hx, hlt, hd⟩ | rfl
  · simp only [go_sem, xQ, ↓reduceIte, xA, xM, xL, xT, xE, xN, xP, xR, xS, h1, h8, h9, h10, hlt, hx]
    refine callB_d (hg x (mem_of_get hx)) ?_
    simp only [go_sem, xQ, ↓reduceIte, xA, xM, xL, xT, xE, xN, xP, xR, xS]
    refine appB_sl (appT_sl el46 tk3 by3 el46 (by decide) rfl (by decide)) hD hG rfl rfl (by omega) (fun a' σ2 hD2 hO hG2 => ?_)
    simp only [go_sem, xQ, ↓reduceIte, xA, xM, xL, xT, xE, xN, xP, xR, xS, h1, h8, h9, h10]
    refine ⟨hD2, by rw [wrap_succ _ (by omega)], ?_⟩
    rw [take_succ hx]
    simpa [ints, int] using hG2
  · simp only [go_sem, xQ, ↓reduceIte, xA, xM, xL, xT, xE, xN, xP, xR, xS, h8, h9, h10, Nat.lt_irrefl]
    have := hG.retP hD
    simpa [slI] using this
def shiftN (n : Int) (x : Nd) : Nd := ⟨x.kind, x.term, x.kids.map fun k => IntKind.i64.wrap (k + n)⟩
theorem f156 (x : Nd) (n : Int) (hx : NdFit x) : PCalls Tryz.prog Γ 156 [ndA x, int n] (ndA (shiftN n x)) := by
  have ht := hx.1
  have hk := hx.2
  refine pcalls (ok156 Γ) fun σ => ?_
  simp only [go_sem, xQ, ↓reduceIte, xA, xM, xL, xT, xE, xN, xP, xR, xS, Tryz.f156]
  intro b hb
  simp only [go_sem, xQ, ↓reduceIte, xA, xM, xL, xT, xE, xN, xP, xR, xS]
  refine dcallB_use (f151 x.term ht) rfl ?_
  simp only [go_sem, xQ, ↓reduceIte, xA, xM, xL, xT, xE, xN, xP, xR, xS]
  refine dcallB_use (f226 x.kids hk _ (fun k => IntKind.i64.wrap (k + n)) (fun k _ => dcall_of (f227 k n) rfl)) rfl ?_
  simp only [go_sem, xQ, ↓reduceIte, xA, xM, xL, xT, xE, xN, xP, xR, xS]
  exact retP_drop (by repeat (first | exact Drop.refl _ | assumption | refine Drop.upd ?_ (by assumption))) (by simp [shiftN, ndA, ndC, slI, int])
theorem f165 (x : Nd) (hx : NdFit x) : PCalls Tryz.prog Γ 165 [ndA x] (ndA (shiftN 0 x)) := by
  refine pcalls (ok165 Γ) fun σ => ?_
  simp only [go_sem, xQ, ↓reduceIte, xA, xM, xL, xT, xE, xN, xP, xR, xS, Tryz.f165]
  intro b hb
  simp only [go_sem, xQ, ↓reduceIte, xA, xM, xL, xT, xE, xN, xP, xR, xS]
  refine callB_use (f156 x 0 hx) rfl ?_
  simp only [go_sem, xQ, ↓reduceIte, xA, xM, xL, xT, xE, xN, xP, xR, xS]
  exact retP_drop (by repeat (first | exact Drop.refl _ | assumption | refine Drop.upd ?_ (by assumption))) (rfl)
/-! ### Terms added -/
def plusC (m : Int) : List Int → List Int → List Int
  | a :: bs, c :: cs => IntKind.i64.wrap (a + IntKind.i64.wrap (m * c)) :: plusC m bs cs
  | bs, [] => bs
  | [], _ => []
theorem plusC_nil (m : Int) (l : List Int) : plusC m l [] = l := by cases l <;> rfl
theorem plusC_len (m : Int) : ∀ (l cs : List Int), (plusC m l cs).length = l.length
  | [], [] => rfl
  | [], _ :: _ => rfl
  | _ :: _, [] => rfl
  | a :: l, c :: cs => by rw [plusC, List.length_cons, List.length_cons, plusC_len m l cs]
theorem plusC_get (m : Int) : ∀ (l cs : List Int) (k : Nat) (a c : Int), l[k]? = some a → cs[k]? = some c → (plusC m l cs)[k]? = some (IntKind.i64.wrap (a + IntKind.i64.wrap (m * c)))
  | [], _, _, _, _, h, _ => by simp at h
  | _ :: _, [], _, _, _, _, h => by simp at h
  | x :: l, y :: cs, 0, a, c, h, k => by simp at h k; subst h; subst k; rfl
  | x :: l, y :: cs, k + 1, a, c, h, h' => by
    rw [plusC, List.getElem?_cons_succ]
    exact plusC_get m l cs k a c (by simpa using h) (by simpa using h')
theorem plusC_past (m : Int) : ∀ (l cs : List Int) (k : Nat), cs.length ≤ k → (plusC m l cs).drop k = l.drop k
  | l, [], k, _ => by rw [plusC_nil]
  | [], c :: cs, k, _ => rfl
  | a :: l, c :: cs, 0, h => by simp at h
  | a :: l, c :: cs, k + 1, h => by
    rw [plusC, List.drop_succ_cons, List.drop_succ_cons]
    exact plusC_past m l cs k (by simpa using h)
def mix (l l' : List Int) (k : Nat) : List Int := l'.take k ++ l.drop k
theorem mix_zero (l l' : List Int) : mix l l' 0 = l := by simp [mix]
theorem mix_len {l l' : List Int} (h : l'.length = l.length) {k : Nat} (hk : k ≤ l.length) : (mix l l' k).length = l.length := by simp [mix]; omega
theorem mix_get {l l' : List Int} (h : l'.length = l.length) {k : Nat} (hk : k ≤ l.length) : (mix l l' k)[k]? = l[k]? := by
  have hm : (l'.take k).length = k := by rw [List.length_take, h]; exact Nat.min_eq_left hk
  rw [mix, List.getElem?_append_right (by omega), hm, Nat.sub_self, List.getElem?_drop, Nat.add_zero]
theorem mix_set {l l' : List Int} (h : l'.length = l.length) {k : Nat} {x : Int} (hk : k < l.length) (hx : l'[k]? = some x) : (mix l l' k).set k x = mix l l' (k + 1) := by
  have hl : (l'.take k).length = k := by simp; omega
  rw [mix, mix, take_succ hx, List.set_append_right _ _ (by omega), hl, Nat.sub_self]
  obtain ⟨y, hy, hd⟩ : ∃ y, l[k]? = some y ∧ l.drop k = y :: l.drop (k + 1) := ⟨l[k], List.getElem?_eq_getElem hk, by rw [List.drop_eq_getElem_cons hk]⟩
  rw [hd, List.set_cons_zero, List.append_assoc, List.singleton_append]
theorem ints_put' {l : List Int} {k : Nat} {x : Int} (h : k < l.length) : putL (ints l) k [AV.v (.int .i64 x)] = ints (l.set k x) := by
  rw [putL, ints, ints, List.map_set, List.set_eq_take_append_cons_drop, if_pos (by simpa using h)]
  simp [int]
theorem ints_zeros' (n : Nat) : (List.replicate n [AV.v (.int .i64 0)]).flatten = ints (List.replicate n 0) := by
  induction n with
  | zero => rfl
  | succ n ih => rw [List.replicate_succ, List.replicate_succ, List.flatten_cons, ih]; rfl
theorem ints_one (l : List Int) : (ints l).all AV.one = true := by
  induction l with
  | nil => rfl
  | cons t l ih => rw [ints, List.map_cons, List.all_cons]; exact ih
theorem frz_own {σ : Sig} {b s c n : Nat} {cs : List AV} (h : σ b = some (.row cs s c)) (hn : cs.length = n * s) {σ' : Sig} (h' : σ' b = none) : Fz σ σ' (.own b s 0 n) (.sl cs n) := by
  refine .own h h' ?_
  have : (cs.drop (0 * s)).take (n * s) = cs := by simp [← hn]
  rw [this]
  exact .refl cs
def plusT (t x : Tm) (m : Int) : Tm := ⟨plusC m t.coeffs x.coeffs, IntKind.i64.wrap (t.const + IntKind.i64.wrap (m * x.const))⟩
theorem f158 (t x : Tm) (m : Int) (hl : Fits t.coeffs.length) (hx : x.coeffs.length ≤ t.coeffs.length) : PCalls Tryz.prog Γ 158 [tmA t, tmA x, int m] (tmA (plusT t x m)) := by
  have hA8 : (8 : Int) * t.coeffs.length ≤ 140737488355328 := by omega
  have hA9 : (t.coeffs.length : Int) ≤ 9223372036854775807 := by omega
  refine pcalls (ok158 Γ) fun σ => ?_
  simp only [go_sem, xQ, ↓reduceIte, xA, xM, xL, xT, xE, xN, xP, xR, xS, Tryz.f158]
  intro b6 hb6
  simp only [go_sem, xQ, ↓reduceIte, xA, xM, xL, xT, xE, xN, xP, xR, xS, hA8, hA9, ints_zeros']
  intro bs hbs
  obtain ⟨ns, hbs⟩ := un hbs
  have ns' : ¬ b6 = bs := fun e => ns e.symm
  simp only [go_sem, xQ, ↓reduceIte, xA, xM, xL, xT, xE, xN, xP, xR, xS, hA8, hA9, ints_zeros', ns, ns']
  intro b7 hb7
  obtain ⟨n7s, hb7⟩ := un hb7
  obtain ⟨n76, hb7⟩ := un hb7
  have n7s' : ¬ bs = b7 := fun e => n7s e.symm
  have n76' : ¬ b6 = b7 := fun e => n76 e.symm
  simp only [go_sem, xQ, ↓reduceIte, xA, xM, xL, xT, xE, xN, xP, xR, xS, hA8, hA9, ints_zeros', ns, ns', n7s, n7s', n76, n76']
  refine copB_all (m := t.coeffs.length) (c := t.coeffs.length) (cs := ints (List.replicate t.coeffs.length 0)) (xs := ints t.coeffs) el46 tk3 (by simp only [go_sem, xQ, ↓reduceIte, xA, xM, xL, xT, xE, xN, xP, xR, xS, n7s', ns]) (by simp [ints]) (src_slI _ t.coeffs) (ints_one _) ?_
  simp only [go_sem, xQ, ↓reduceIte, xA, xM, xL, xT, xE, xN, xP, xR, xS, hA8, hA9, ns, ns', n7s, n7s', n76, n76']
  have hp := plusC_len m t.coeffs x.coeffs
  refine SemC.loopK mixed x.coeffs.length (fun k ρ σ' ds => (ds = [] ∧ ρ 2 = int m ∧ ρ 6 = .v (.pointer (some ⟨b6, 0, none⟩)) ∧ ρ 7 = .v (.pointer (some ⟨b7, 0, none⟩)) ∧ ρ 28 = slI x.coeffs ∧ ρ 29 = int x.coeffs.length ∧ ρ 30 = int k ∧ σ' b6 = some (.row [.v (.slice none 0 0), int 0] 2 1) ∧ σ' b7 = some (.row [.own bs 1 0 t.coeffs.length, int (plusT t x m).const] 2 1) ∧ σ' bs = some (.row (ints (mix t.coeffs (plusC m t.coeffs x.coeffs) k)) 1 t.coeffs.length)) ∧ Drop σ' σ) (by kernel_rfl)
    ⟨by simp only [go_sem, xQ, ↓reduceIte, xA, xM, xL, xT, xE, xN, xP, xR, xS, n7s, n7s', n76, n76', ns, ns', mix_zero, plusT], by repeat (first | exact Drop.refl _ | assumption | refine Drop.upd ?_ (by assumption))⟩ ?_
  rintro k ρ σ' ds hk ⟨⟨rfl, h2, h6, h7, h28, h29, h30, hs6, hs7, hss⟩, hD⟩
  have hml := mix_len hp (k := k) (by omega)
  rcases get_or_end x.coeffs k hk with ⟨c, hc, hlt, hd⟩ | hk
  · obtain ⟨a, ha⟩ : ∃ a, t.coeffs[k]? = some a := ⟨t.coeffs[k]'(by omega), List.getElem?_eq_getElem _⟩
    have hg := mix_get hp (k := k) (by omega)
    rw [ha] at hg
    have hltt : k < t.coeffs.length := by omega
    have hle1 : k + 1 ≤ t.coeffs.length := by omega
    have hset := mix_set hp hltt (plusC_get m t.coeffs x.coeffs k a c ha hc)
    have hput := fun y => ints_put' (l := mix t.coeffs (plusC m t.coeffs x.coeffs) k) (k := k) (x := y) (by omega)
    simp only [go_sem, xQ, ↓reduceIte, xA, xM, xL, xT, xE, xN, xP, xR, xS, h2, h6, h7, h28, h29, h30, hs6, hs7, hss, hlt, hc, hg, hltt, hle1, hml, ints_len, ↓hput, hset, n7s, n7s', n76, n76', ns, ns']
    exact ⟨by rw [wrap_succ _ (by omega)], hD.upd hbs⟩
  · subst hk
    have hend : mix t.coeffs (plusC m t.coeffs x.coeffs) x.coeffs.length = (plusT t x m).coeffs := by
      rw [mix, ← plusC_past m t.coeffs x.coeffs x.coeffs.length (Nat.le_refl _), List.take_append_drop]
      rfl
    rw [hend] at hss
    simp only [go_sem, xQ, ↓reduceIte, xA, xM, xL, xT, xE, xN, xP, xR, xS, h2, h6, h7, h28, h29, h30, hs6, hs7, hss, Nat.lt_irrefl, n7s, n7s', n76, n76', ns, ns']
    have hlen : (plusT t x m).coeffs.length = t.coeffs.length := plusC_len m t.coeffs x.coeffs
    rw [hlen]
    refine ⟨.agg (.cons (frz_own (c := t.coeffs.length) (by rw [upd_ne _ _ _ _ ns]; exact hss) (by rw [ints_len, hlen, Nat.mul_one]) hbs) (.cons (.refl _) .nil)), hD.upd hb6⟩
theorem f157 (n : Nat) (c : Int) (hn : Fits n) : PCalls Tryz.prog Γ 157 [int n, int c] (tmA ⟨List.replicate n 0, c⟩) := by
  have hA8 : (8 : Int) * n ≤ 140737488355328 := by omega
  have hA9 : (n : Int) ≤ 9223372036854775807 := by omega
  refine pcalls (ok157 Γ) fun σ => ?_
  simp only [go_sem, xQ, ↓reduceIte, xA, xM, xL, xT, xE, xN, xP, xR, xS, Tryz.f157]
  intro b4 hb4
  simp only [go_sem, xQ, ↓reduceIte, xA, xM, xL, xT, xE, xN, xP, xR, xS, hA8, hA9, ints_zeros']
  intro bs hbs
  obtain ⟨ns, hbs⟩ := un hbs
  have ns' : ¬ b4 = bs := fun e => ns e.symm
  simp only [go_sem, xQ, ↓reduceIte, xA, xM, xL, xT, xE, xN, xP, xR, xS, hA8, hA9, ints_zeros', ns, ns', List.length_replicate]
  exact ⟨.agg (.cons (frz_own (c := n) (by simp only [upd, ns, ns', if_true, if_false, ints_zeros', Int.toNat_natCast]) (by simp [ints_len]) hbs) (.cons (.refl _) .nil)), by repeat (first | exact Drop.refl _ | assumption | refine Drop.upd ?_ (by assumption))⟩
def largeE (t : Tm) : Int := whenE (!decide (numbersE t = 0)) 4
theorem f159 (t : Tm) (hl : Fits t.coeffs.length) : PCalls Tryz.prog Γ 159 [tmA t] (int (largeE t)) := by
  refine pcalls (ok159 Γ) fun σ => ?_
  simp only [go_sem, xQ, ↓reduceIte, xA, xM, xL, xT, xE, xN, xP, xR, xS, Tryz.f159]
  refine callB_use (f173 t hl) rfl ?_
  simp only [go_sem, xQ, ↓reduceIte, xA, xM, xL, xT, xE, xN, xP, xR, xS]
  refine callB_use (f144 _ _) rfl ?_
  simp only [go_sem, xQ, ↓reduceIte, xA, xM, xL, xT, xE, xN, xP, xR, xS]
  exact retP_eq rfl
def oppT (t : Tm) (n : Int) : Tm := plusT ⟨List.replicate t.coeffs.length 0, n⟩ t (-1)
theorem f169 (t : Tm) (n : Int) (hl : Fits t.coeffs.length) : PCalls Tryz.prog Γ 169 [tmA t, int n] (tmA (oppT t n)) := by
  refine pcalls (ok169 Γ) fun σ => ?_
  simp only [go_sem, xQ, ↓reduceIte, xA, xM, xL, xT, xE, xN, xP, xR, xS, Tryz.f169]
  intro b hb
  simp only [go_sem, xQ, ↓reduceIte, xA, xM, xL, xT, xE, xN, xP, xR, xS]
  refine dcallB_use (f157 t.coeffs.length n hl) rfl ?_
  simp only [go_sem, xQ, ↓reduceIte, xA, xM, xL, xT, xE, xN, xP, xR, xS]
  refine callB_use (f158 ⟨List.replicate t.coeffs.length 0, n⟩ t (-1) (by simpa using hl) (by simp)) rfl ?_
  simp only [go_sem, xQ, ↓reduceIte, xA, xM, xL, xT, xE, xN, xP, xR, xS]
  exact retP_drop (by repeat (first | exact Drop.refl _ | assumption | refine Drop.upd ?_ (by assumption))) (rfl)
def lessT (t : Tm) (n : Int) : Tm := plusT t ⟨[], n⟩ (-1)
theorem f253 (t : Tm) (n : Int) (hl : Fits t.coeffs.length) : PCalls Tryz.prog Γ 253 [tmA t, int n] (tmA (lessT t n)) := by
  refine pcalls (ok253 Γ) fun σ => ?_
  simp only [go_sem, xQ, ↓reduceIte, xA, xM, xL, xT, xE, xN, xP, xR, xS, Tryz.f253]
  intro b hb
  simp only [go_sem, xQ, ↓reduceIte, xA, xM, xL, xT, xE, xN, xP, xR, xS]
  refine callB_fz (f158 t ⟨[], n⟩ (-1) hl (Nat.zero_le _)) (.cons (.refl _) (.cons (.agg (.cons .nil (.cons (.refl _) .nil))) (.cons (.refl _) .nil))) ?_
  simp only [go_sem, xQ, ↓reduceIte, xA, xM, xL, xT, xE, xN, xP, xR, xS]
  exact retP_drop (by repeat (first | exact Drop.refl _ | assumption | refine Drop.upd ?_ (by assumption))) (rfl)
end Go.AL

/- Opposite; copies told; same formulas. -/
set_option linter.unusedVariables false
set_option linter.unusedSimpArgs false
namespace Go.AL
open Go.Proofs
variable {Γ : Glob}
attribute [local irreducible] codeW opsW dopsW
@[reducible] noncomputable def p65z (Γ : Glob) : Par := par Γ [2, 5, 23] [(1, [false, true]), (4, [false, true])] [(1, [0, 1, 0, 4, 12, 28, 63, 127, 255, 511]), (4, [0, 1, 0, 4, 12, 31, 0, 127])]
theorem ok65z (Γ : Glob) : FnOk (p65z Γ) 65 37 (Tryz.f65.body.getD .skip) Tryz.f65.results.toList 1 := fnOk (par_mixed _ _ _ _) Tryz.func65 rfl rfl rfl (by kernel_rfl) (Nat.le_of_ble_eq_true rfl) (by kernel_rfl)
theorem made_of_grow {σ σ' : Sig} {s n : Nat} {a : AV} {cs : List AV} {K : AV → Sig → Prop} (hG : Grow σ σ' s a cs n) (hD : Drop σ' σ) (hK : ∀ a τ, Made σ s cs n a τ → K a τ) : ∃ r0 σ0, Fz σ' σ0 a r0 ∧ Drop σ' σ0 ∧ K r0 σ0 := by
  rcases hG with ⟨h1, h2, h3⟩ | ⟨b, c, rfl, h1, h2, h3⟩
  · exact ⟨a, σ, .refl _, hD, hK _ _ (.inl ⟨h1, h2, h3, rfl⟩)⟩
  · refine ⟨_, _, .refl _, fun i => ?_, hK _ _ (.inr ⟨b, c, h1, rfl, rfl, h3⟩)⟩
    by_cases hi : i = b
    · subst hi; right; rw [upd_same, h2]
    · rw [upd_ne _ _ _ _ hi]; exact hD i
theorem f163o (l : List Nd) (hl : Fits l.length) (fv : AV) (g : Nd → Nd) (hg : ∀ x ∈ l, DCall Tryz.prog Γ fv [ndA x] (ndA (g x))) : OCall Tryz.prog Γ (.fn (.func 163) [] []) [slN l, fv] 4 ((l.map g).flatMap ndC) l.length := by
  refine ⟨by rw [rows_length ndC_len, List.length_map], fun σ K hK => ?_⟩
  show ACalls Tryz.prog Γ 163 ([] ++ [slN l, fv] ++ []) σ K
  refine ACalls.retK (acalls (ok163 Γ) ?_)
  simp only [go_sem, xQ, ↓reduceIte, xA, xM, xL, xT, xE, xN, xP, xR, xS, Tryz.f163]
  refine SemC.loopK mixed l.length (fun k ρ σ' ds => Drop σ' σ ∧ ds = [] ∧ ρ 1 = fv ∧ ρ 8 = slN l ∧ ρ 9 = int l.length ∧ ρ 10 = int k ∧ Grow σ σ' 4 (ρ 5) (((l.take k).map g).flatMap ndC) k) (by kernel_rfl) ⟨.refl _, rfl, rfl, rfl, rfl, rfl, .nil _ _ _⟩ ?_
  rintro k ρ σ' ds hk ⟨hD, rfl, h1, h8, h9, h10, hG⟩
  rcases get_or_end l k hk with ⟨x, hx, hlt, hd⟩ | rfl
  · simp only [go_sem, xQ, ↓reduceIte, xA, xM, xL, xT, xE, xN, xP, xR, xS, h1, h8, h9, h10, hlt, hx, ↓nd_part hx]
    intro b hb
    simp only [go_sem, xQ, ↓reduceIte, xA, xM, xL, xT, xE, xN, xP, xR, xS, h1, h8, h9, h10, hlt, hx, ↓nd_part hx]
    refine callB_d (hg x (mem_of_get hx)) ?_
    simp only [go_sem, xQ, ↓reduceIte, xA, xM, xL, xT, xE, xN, xP, xR, xS]
    refine appB_sl (appT_sl el64 tk216 by216 el64 (by decide) rfl (by decide)) (hD.upd (hD.free hb)) (hG.upd hb) rfl rfl (by omega) (fun a' σ2 hD2 hO hG2 => ?_)
    simp only [go_sem, xQ, ↓reduceIte, xA, xM, xL, xT, xE, xN, xP, xR, xS, h1, h8, h9, h10]
    refine ⟨hD2, by rw [wrap_succ _ (by omega)], ?_⟩
    rw [take_succ hx, List.map_append, List.flatMap_append]
    simpa [ndC, slI, int] using hG2
  · rw [List.take_length] at hG
    simp only [go_sem, xQ, ↓reduceIte, xA, xM, xL, xT, xE, xN, xP, xR, xS, h8, h9, h10, Nat.lt_irrefl]
    exact made_of_grow hG hD hK
theorem FzL.app {σ σ' : Sig} : ∀ {a a' b b' : List AV}, FzL σ σ' a a' → FzL σ σ' b b' → FzL σ σ' (a ++ b) (a' ++ b')
  | _, _, _, _, .nil, h => h
  | _, _, _, _, .cons h h', k => .cons h (FzL.app h' k)
/-- A row that grew, told as frozen; its cells told anew. -/
theorem Grow.fzl {σ0 σ : Sig} {s n : Nat} {a : AV} {cs cs' : List AV} (h : Grow σ0 σ s a cs n) (hne : cs ≠ []) (hk : FzL σ σ0 cs cs') : Fz σ σ0 a (.sl cs' n) := by
  rcases h with ⟨_, h, _⟩ | ⟨b, c, rfl, h1, h2, h3⟩
  · exact absurd h hne
  · refine .own h2 h1 ?_
    have : (cs.drop (0 * s)).take (n * s) = cs := by simp [← h3]
    rw [this]
    exact hk
def oppE (f : Fm) : Int := firstE [checkE f, whenE (decide ((200 : Int) ≤ f.nodes.length)) 5]
def oppF' (f : Fm) : Fm := ⟨f.vars, f.nodes.map (shiftN 0) ++ [⟨2, ⟨[], 0⟩, [(f.nodes.length : Int) - 1]⟩]⟩
def fm0 : Fm := ⟨0, []⟩
theorem f65 (hG : Γ 0 = some sortsT) (f : Fm) (hl : Fits f.nodes.length) (hc : ∀ n ∈ f.nodes, NdFit n) : PCalls Tryz.prog Γ 65 [fmA f] (.tup [fmA (if oppE f = 0 then oppF' f else fm0), int (oppE f)]) := by
  refine pcalls (ok65z Γ) fun σ => ?_
  simp only [go_sem, xQ, ↓reduceIte, xA, xM, xL, xT, xE, xN, xP, xR, xS, Tryz.f65]
  intro b2 hb2
  simp only [go_sem, xQ, ↓reduceIte, xA, xM, xL, xT, xE, xN, xP, xR, xS]
  refine dcallB_use (f47 hG f hl hc) rfl ?_
  simp only [go_sem, xQ, ↓reduceIte, xA, xM, xL, xT, xE, xN, xP, xR, xS]
  refine callB_use (f144 _ _) rfl ?_
  simp only [go_sem, xQ, ↓reduceIte, xA, xM, xL, xT, xE, xN, xP, xR, xS]
  refine callB_use (f135 [_, _] (by simp)) rfl ?_
  by_cases h : oppE f = 0
  · have h' := h
    unfold oppE at h'
    obtain ⟨hne, _⟩ := check_ok ((firstE_zero _).1 h' (checkE f) (by simp))
    have hpos : 0 < f.nodes.length := List.length_pos_iff.2 hne
    have hw : IntKind.i64.wrap ((f.nodes.length : Int) - 1) = (f.nodes.length : Int) - 1 := wrap_i64 _ (by omega) (by omega)
    rw [h, if_pos rfl]
    simp only [go_sem, xQ, ↓reduceIte, xA, xM, xL, xT, xE, xN, xP, xR, xS, h']
    refine ⟨4, _, _, f163o f.nodes hl _ (shiftN 0) (fun x hx => dcall_of (f165 x (hc x hx)) rfl), fun a σm hm => ?_⟩
    rcases hm with ⟨_, hn, _⟩ | ⟨bm, c, hbm, rfl, rfl, hlen⟩
    · have := congrArg List.length hn
      rw [rows_length ndC_len, List.length_map, List.length_nil] at this
      omega
    obtain ⟨nm, hbm⟩ := un hbm
    have nm' : ¬ b2 = bm := fun e => nm e.symm
    simp only [go_sem, xQ, ↓reduceIte, xA, xM, xL, xT, xE, xN, xP, xR, xS, nm, nm']
    intro b5 hb5
    obtain ⟨n5m, hb5⟩ := un hb5
    obtain ⟨n52, hb5⟩ := un hb5
    have n5m' : ¬ bm = b5 := fun e => n5m e.symm
    have n52' : ¬ b2 = b5 := fun e => n52 e.symm
    simp only [go_sem, xQ, ↓reduceIte, xA, xM, xL, xT, xE, xN, xP, xR, xS, h', nm, nm', n5m, n5m', n52, n52', hw]
    refine appB_sl (cs := (f.nodes.map (shiftN 0)).flatMap ndC) (m := f.nodes.length) (appT_sl el64 tk216 by216 el64 (by decide) rfl (by decide)) (σ0 := σ) (by repeat (first | exact Drop.refl _ | assumption | refine Drop.upd ?_ (by assumption))) (.inr ⟨bm, c, rfl, hbm, by simp only [go_sem, xQ, ↓reduceIte, xA, xM, xL, xT, xE, xN, xP, xR, xS, n5m'], hlen⟩) rfl rfl (by omega) (fun a' σ2 hD2 hO hG2 => ?_)
    have e2 : σ2 b2 = some (.row [int 0, .v (.slice none 0 0)] 2 1) := by
      rw [hO b2 (fun _ _ _ e => by cases e; exact nm' rfl) (by simp [upd, n52', nm'])]; simp [upd, n52', nm', int]
    have e5 : σ2 b5 = some (.row [int f.vars, .own bm 4 0 f.nodes.length] 2 1) := by
      rw [hO b5 (fun _ _ _ e => by cases e; exact n5m rfl) (by simp [upd])]; simp [upd, int]
    have hc2 := hG2.cellsX
    have ho2 := hG2.oneX
    simp only [go_sem, xQ, ↓reduceIte, xA, xM, xL, xT, xE, xN, xP, xR, xS, e2, e5, hc2, ho2, n52, n52']
    have hG3 := (hG2.updW (hG2.neS e5 (by decide)) (some (.row [int f.vars, a'] 2 1)))
    have e2' : upd σ2 b5 (some (.row [int f.vars, a'] 2 1)) b2 = some (.row [int 0, .v (.slice none 0 0)] 2 1) := by rw [upd_ne _ _ _ _ n52']; exact e2
    have hG4 := hG3.updW (hG3.neS e2' (by decide)) (some (.row [int f.vars, a'] 2 1))
    refine ⟨.tup (.cons (.agg (.cons (.refl _) (.cons ?_ .nil))) (.cons (.refl _) .nil)), (hD2.upd hb5).upd hb2⟩
    have e : slN (oppF' f).nodes = .sl (((f.nodes.map (shiftN 0)).flatMap ndC) ++ [int 2, .sl [] 0, int 0, .sl [int ((f.nodes.length : Int) - 1)] 1]) (f.nodes.length + 1) := by simp [oppF', slN, ndC, slI, int, ints]
    show Fz _ σ a' (slN (oppF' f).nodes)
    rw [e]
    refine Grow.fzl hG4 (by simp) (FzL.app (FzL.refl _) ?_)
    repeat (first | exact FzL.nil | exact FzL.refl _ | refine FzL.cons (by first | exact Fz.refl _ | exact Fz.nil) ?_)
  · have h' := h
    unfold oppE at h'
    rw [if_neg h]
    simp only [go_sem, xQ, ↓reduceIte, xA, xM, xL, xT, xE, xN, xP, xR, xS, h', fm0]
    refine ⟨.tup (.cons (.agg (.cons (.refl _) (.cons .nil .nil))) (.cons (.refl _) .nil)), by repeat (first | exact Drop.refl _ | assumption | refine Drop.upd ?_ (by assumption))⟩
theorem f111 (f : Fm) (hl : Fits f.nodes.length) : PCalls Tryz.prog Γ 111 [fmA f] (fmA f) := by
  refine pcalls (ok111 Γ) fun σ => ?_
  simp only [go_sem, xQ, ↓reduceIte, xA, xM, xL, xT, xE, xN, xP, xR, xS, Tryz.f111]
  intro b2 hb2
  simp only [go_sem, xQ, ↓reduceIte, xA, xM, xL, xT, xE, xN, xP, xR, xS]
  intro bo hbo
  obtain ⟨hne, hbo⟩ := un hbo
  have hne' : ¬ b2 = bo := fun e => hne e.symm
  simp only [go_sem, xQ, ↓reduceIte, xA, xM, xL, xT, xE, xN, xP, xR, xS, hne, hne']
  refine SemC.loopK mixed f.nodes.length (fun k ρ σ' ds => (ds = [] ∧ ρ 10 = slN f.nodes ∧ ρ 11 = int f.nodes.length ∧ ρ 2 = .v (.pointer (some ⟨b2, 0, none⟩)) ∧ ρ 3 = .v (.pointer (some ⟨bo, 0, none⟩)) ∧ ρ 12 = int k ∧ σ' b2 = some (.row [int 0, .v (.slice none 0 0)] 2 1)) ∧ Drop σ' σ ∧
    ∃ a, σ' bo = some (.row [int f.vars, a] 2 1) ∧ Grow σ σ' 4 a ((f.nodes.take k).flatMap ndC) k) (by kernel_rfl) ⟨by simp only [go_sem, xQ, ↓reduceIte, xA, xM, xL, xT, xE, xN, xP, xR, xS, hne, hne'], by repeat (first | exact Drop.refl _ | assumption | refine Drop.upd ?_ (by assumption)), _, by simp only [go_sem, xQ, ↓reduceIte, xA, xM, xL, xT, xE, xN, xP, xR, xS], .nil _ _ _⟩ ?_
  rintro k ρ σ' ds hk ⟨⟨rfl, h10, h11, h2, h3, h12, hs2⟩, hD, a, hso, hG⟩
  rcases get_or_end f.nodes k hk with ⟨x, hx, hlt, hd⟩ | hk
  · simp only [go_sem, xQ, ↓reduceIte, xA, xM, xL, xT, xE, xN, xP, xR, xS, h10, h11, h2, h3, h12, hlt, ↓nd_part hx]
    intro b hb
    have n2 := nn hb hs2
    have no := nn hb hso
    have n2' : ¬ b = b2 := fun e => n2 e.symm
    have no' : ¬ b = bo := fun e => no e.symm
    simp only [go_sem, xQ, ↓reduceIte, xA, xM, xL, xT, xE, xN, xP, xR, xS, h10, h11, h2, h3, h12, hlt, ↓nd_part hx, n2, no, n2', no', hs2, hso]
    refine appB_sl (appT_sl el58 tk138 by138 el58 (by decide) rfl (by decide)) (hD.upd (hD.free hb)) (hG.upd hb) rfl rfl (by omega) (fun a' σ2 hD2 hO hG2 => ?_)
    have e2 : σ2 b2 = some (.row [int 0, .v (.slice none 0 0)] 2 1) := by
      rw [hO b2 (hG.neS hs2 (by decide)) (by simp [upd, n2, hs2])]; simp [upd, n2, hs2]
    have eo : σ2 bo = some (.row [int f.vars, a] 2 1) := by
      rw [hO bo (hG.neS hso (by decide)) (by simp [upd, no, hso])]; simp [upd, no, hso]
    have hc2 := hG2.cellsX
    have ho2 := hG2.oneX
    simp only [go_sem, xQ, ↓reduceIte, xA, xM, xL, xT, xE, xN, xP, xR, xS, h10, h11, h2, h3, h12, e2, eo, hc2, ho2, hne', hlt]
    refine ⟨by rw [wrap_succ _ (by omega)], hD2.upd hbo, a', by simp only [go_sem, xQ, ↓reduceIte, xA, xM, xL, xT, xE, xN, xP, xR, xS, upd_same], ?_⟩
    rw [take_succ hx, List.flatMap_append]
    have := hG2.updW (hG2.neS eo (by decide)) (some (.row [int f.vars, a'] 2 1))
    simpa [ndC, slI, int] using this
  · subst hk
    have ho := hG.oneX
    rw [List.take_length] at hG
    simp only [go_sem, xQ, ↓reduceIte, xA, xM, xL, xT, xE, xN, xP, xR, xS, h10, h11, h2, h3, h12, Nat.lt_irrefl, hs2, hso, hne, ho]
    have hG' := hG.updW (hG.neS hs2 (by decide)) (some (.row [int f.vars, a] 2 1))
    exact ⟨.agg (.cons (.refl _) (.cons (hG'.retP (hD.upd hb2)).1 .nil)), hD.upd hb2⟩
theorem f82 (a b : Tm) (hl : Fits a.coeffs.length) : PCalls Tryz.prog Γ 82 [tmA a, tmA b] (.v (.bool (decide (a = b)))) := by
  refine pcalls (ok82 Γ) fun σ => ?_
  by_cases h : a.const = b.const
  · simp only [go_sem, xQ, ↓reduceIte, xA, xM, xL, xT, xE, xN, xP, xR, xS, Tryz.f82, h]
    refine callB_use (f38 _ _ hl) rfl ?_
    simp only [go_sem, xQ, ↓reduceIte, xA, xM, xL, xT, xE, xN, xP, xR, xS]
    exact retP_eq (by cases a; cases b; simp only at h; subst h; simp)
  · simp only [go_sem, xQ, ↓reduceIte, xA, xM, xL, xT, xE, xN, xP, xR, xS, Tryz.f82, h]
    exact retP_eq (by have : ¬ a = b := fun e => h (by rw [e]); simp [this])
theorem f201 (a b : Nd) (ha : NdFit a) : PCalls Tryz.prog Γ 201 [ndA a, ndA b] (.v (.bool (decide (a = b)))) := by
  refine pcalls (ok201 Γ) fun σ => ?_
  by_cases h : a.kind = b.kind
  · simp only [go_sem, xQ, ↓reduceIte, xA, xM, xL, xT, xE, xN, xP, xR, xS, Tryz.f201, h]
    refine callB_use (f82 a.term b.term ha.1) rfl ?_
    by_cases h2 : a.term = b.term
    · simp only [go_sem, xQ, ↓reduceIte, xA, xM, xL, xT, xE, xN, xP, xR, xS, h2]
      refine callB_use (f38 _ _ ha.2) rfl ?_
      simp only [go_sem, xQ, ↓reduceIte, xA, xM, xL, xT, xE, xN, xP, xR, xS]
      exact retP_eq (by cases a; cases b; simp only at h h2; subst h; subst h2; simp)
    · simp only [go_sem, xQ, ↓reduceIte, xA, xM, xL, xT, xE, xN, xP, xR, xS, h2]
      exact retP_eq (by have : ¬ a = b := fun e => h2 (by rw [e]); simp [this])
  · simp only [go_sem, xQ, ↓reduceIte, xA, xM, xL, xT, xE, xN, xP, xR, xS, Tryz.f201, h]
    exact retP_eq (by have : ¬ a = b := fun e => h (by rw [e]); simp [this])
theorem f110 (a b : Fm) (hl : Fits a.nodes.length) (hc : ∀ n ∈ a.nodes, NdFit n) : PCalls Tryz.prog Γ 110 [fmA a, fmA b] (.v (.bool (decide (a = b)))) := by
  refine pcalls (ok110 Γ) fun σ => ?_
  by_cases hv : a.vars = b.vars
  · by_cases hn : (a.nodes.length : Int) = b.nodes.length
    · simp only [go_sem, xQ, ↓reduceIte, xA, xM, xL, xT, xE, xN, xP, xR, xS, Tryz.f110, hv, hn]
      refine SemC.loopK mixed a.nodes.length (fun k ρ σ' ds => σ' = σ ∧ ds = [] ∧ ρ 2 = .pp (fmC a) 0 ∧ ρ 3 = .pp (fmC b) 0 ∧ ρ 5 = int k ∧ a.nodes.take k = b.nodes.take k) (by kernel_rfl) ⟨rfl, rfl, by simp only [go_sem, xQ, ↓reduceIte, xA, xM, xL, xT, xE, xN, xP, xR, xS, hv, hn], rfl, rfl, rfl⟩ ?_
      rintro k ρ σ' ds hk ⟨rfl, rfl, h2, h3, h5, hz⟩
      rcases get_or_end a.nodes k hk with ⟨x, hx, hlt, hd⟩ | hk
      · rcases get_or_end b.nodes k (by omega) with ⟨y, hy, hlt2, hd2⟩ | hk2
        · simp only [go_sem, xQ, ↓reduceIte, xA, xM, xL, xT, xE, xN, xP, xR, xS, h2, h3, h5, hlt, hlt2, ↓nd_part hx, ↓nd_part hy]
          refine callB_use (f201 x y (hc x (mem_of_get hx))) rfl ?_
          by_cases hxy : x = y
          · simp only [go_sem, xQ, ↓reduceIte, xA, xM, xL, xT, xE, xN, xP, xR, xS, h2, h3, h5, hxy, eq_self_iff_true]
            exact ⟨hlt, by rw [wrap_succ _ (by omega)], by rw [take_succ hx, take_succ hy, hz, hxy]⟩
          · simp only [go_sem, xQ, ↓reduceIte, xA, xM, xL, xT, xE, xN, xP, xR, xS, h2, h3, h5, hxy]
            exact retP_eq (by have : ¬ a = b := fun e => hxy (by rw [e, hy] at hx; exact (Option.some.inj hx).symm); simp [this])
        · omega
      · subst hk
        simp only [go_sem, xQ, ↓reduceIte, xA, xM, xL, xT, xE, xN, xP, xR, xS, h2, h3, h5, Nat.lt_irrefl]
        have he : a.nodes = b.nodes := by
          rw [List.take_length] at hz
          rw [hz, show a.nodes.length = b.nodes.length by omega, List.take_length]
        exact retP_eq (by cases a; cases b; simp only at hv he; subst hv; subst he; simp)
    · simp only [go_sem, xQ, ↓reduceIte, xA, xM, xL, xT, xE, xN, xP, xR, xS, Tryz.f110, hv, hn]
      exact retP_eq (by have : ¬ a = b := fun e => hn (by rw [e]); simp [this])
  · simp only [go_sem, xQ, ↓reduceIte, xA, xM, xL, xT, xE, xN, xP, xR, xS, Tryz.f110, hv]
    exact retP_eq (by have : ¬ a = b := fun e => hv (by rw [e]); simp [this])
end Go.AL

/- Put. -/
set_option linter.unusedVariables false
set_option linter.unusedSimpArgs false
namespace Go.AL
open Go.Proofs
variable {Γ : Glob}
attribute [local irreducible] codeW opsW dopsW
theorem f154 (l : List Tm) (hl : Fits l.length) (fv : AV) (g : Tm → Int) (σ : Sig) (hg : ∀ x ∈ l, ∀ σ' : Sig, (∀ b, σ b ≠ none → σ' b = σ b) → ∀ K : AV → Sig → Prop, K (int (g x)) σ' → callB Tryz.prog Γ fv [tmA x] σ' K) :
    ACalls Tryz.prog Γ 154 [slT l, fv] σ fun r σ' => r = slI (l.map g) ∧ σ' = σ := by
  refine pcallsAt (ok154 Γ) ?_
  simp only [go_sem, xQ, ↓reduceIte, xA, xM, xL, xT, xE, xN, xP, xR, xS, Tryz.f154]
  refine SemC.loopK mixed l.length (fun k ρ σ' ds => Drop σ' σ ∧ ds = [] ∧ ρ 1 = fv ∧ ρ 8 = slT l ∧ ρ 9 = int l.length ∧ ρ 10 = int k ∧ Grow σ σ' 1 (ρ 5) (ints ((l.take k).map g)) k ∧ ∀ b, σ b ≠ none → σ' b = σ b) (by kernel_rfl) ⟨.refl _, rfl, rfl, rfl, rfl, rfl, .nil _ _ _, fun _ _ => rfl⟩ ?_
  rintro k ρ σ' ds hk ⟨hD, rfl, h1, h8, h9, h10, hG, hE⟩
  rcases get_or_end l k hk with ⟨x, hx, hlt, hd⟩ | rfl
  · simp only [go_sem, xQ, ↓reduceIte, xA, xM, xL, xT, xE, xN, xP, xR, xS, h1, h8, h9, h10, hlt, hx, ↓tm_part hx]
    intro b hb
    simp only [go_sem, xQ, ↓reduceIte, xA, xM, xL, xT, xE, xN, xP, xR, xS, h1, h8, h9, h10, hlt, hx, ↓tm_part hx]
    have hE2 : ∀ i, σ i ≠ none → upd σ' b (some (.row (tmC x) 2 1)) i = σ i := fun i hi => by
      rw [upd_ne]
      · exact hE i hi
      · intro e; subst e; rw [hE i hi] at hb; exact hi hb
    refine hg x (mem_of_get hx) _ hE2 _ ?_
    simp only [go_sem, xQ, ↓reduceIte, xA, xM, xL, xT, xE, xN, xP, xR, xS, h1, h8, h9, h10]
    refine appB_sl (appT_sl el191 tk29 by29 el191 (by decide) rfl (by decide)) (hD.upd (hD.free hb)) (hG.upd hb) rfl rfl (by omega) (fun a' σ2 hD2 hO hG2 => ?_)
    refine ⟨hD2, by rw [wrap_succ _ (by omega)], ?_, fun i hi => ?_⟩
    · rw [take_succ hx]
      simpa [ints, int] using hG2
    · have h2 := hE2 i hi
      rw [hO i ?_ (by show upd σ' b (some (.row (tmC x) 2 1)) i ≠ none; rw [h2]; exact hi)]
      · exact h2
      · intro s1 o m e
        rcases hG with ⟨h, _⟩ | ⟨b', c, h0, h1, h2, h3⟩
        · rcases h with h | h <;> rw [h] at e <;> cases e
        · rw [h0] at e
          cases e
          exact hi h1
  · simp only [go_sem, xQ, ↓reduceIte, xA, xM, xL, xT, xE, xN, xP, xR, xS, h8, h9, h10, Nat.lt_irrefl]
    have := hG.retP hD
    simpa [slI] using this
theorem f155 (t : Tm) (n : Int) (hl : Fits t.coeffs.length) (b7 : Nat) (σ : Sig) (h7 : σ b7 = some (.row [int n] 1 1)) : ACalls Tryz.prog Γ 155 [tmA t, .v (.pointer (some ⟨b7, 0, none⟩))] σ fun r σ' => r = int (checkTermE t n) ∧ σ' = σ := by
  refine pcallsAt (ok155 Γ) ?_
  simp only [go_sem, xQ, ↓reduceIte, xA, xM, xL, xT, xE, xN, xP, xR, xS, Tryz.f155, h7]
  refine callB_use (f80 t n hl) rfl ?_
  simp only [go_sem, xQ, ↓reduceIte, xA, xM, xL, xT, xE, xN, xP, xR, xS]
/-- Terms put into a sum, one by one; none if a number is too large. -/
def putT (terms : List Tm) : List Int → Nat → Tm → Option Tm
  | [], _, t => some t
  | c :: cs, i, t => match terms[i]? with
    | none => none
    | some x => if largeE (plusT t x c) = 0 then putT terms cs (i + 1) (plusT t x c) else none
def putNd (terms : List Tm) (vars : Nat) (n : Nd) : Option Nd :=
  if n.kind ≤ 1 then (putT terms n.term.coeffs 0 ⟨List.replicate vars 0, n.term.const⟩).map fun t => ⟨n.kind, t, (shiftN 0 n).kids⟩ else some (shiftN 0 n)
def putNs (terms : List Tm) (vars : Nat) : List Nd → List Nd → Option (List Nd)
  | [], acc => some acc
  | n :: l, acc => match putNd terms vars n with
    | none => none
    | some x => putNs terms vars l (acc ++ [x])
def varsT (terms : List Tm) : Nat := match terms with
  | [] => 0
  | t :: _ => t.coeffs.length
def putE1 (f : Fm) (terms : List Tm) : Int := firstE [checkE f, whenE (!decide ((terms.length : Int) = f.vars)) 2]
def putE2 (terms : List Tm) : Int := firstE (terms.map fun t => checkTermE t (varsT terms))
def putR (f : Fm) (terms : List Tm) : Fm × Int :=
  if putE1 f terms = 0 then
    if putE2 terms = 0 then (match putNs terms (varsT terms) f.nodes [] with | some l => (⟨varsT terms, l⟩, 0) | none => (fm0, 4))
    else (fm0, putE2 terms)
  else (fm0, putE1 f terms)
theorem large_04 (t : Tm) : largeE t = 0 ∨ largeE t = 4 := by unfold largeE whenE; split <;> simp
theorem vars_terms {terms : List Tm} (h : putE2 terms = 0) : varsT terms ≤ 8 ∧ ∀ t ∈ terms, t.coeffs.length = varsT terms := by
  have h1 := (firstE_zero _).1 h
  have h2 : ∀ t ∈ terms, checkTermE t (varsT terms) = 0 := fun t ht => h1 _ (List.mem_map_of_mem (f := fun t => checkTermE t (varsT terms)) ht)
  refine ⟨?_, fun t ht => by have := term_len (h2 t ht); omega⟩
  cases terms with
  | nil => exact Nat.zero_le _
  | cons t l =>
    have := (firstE_zero _).1 (h2 t (by simp)) (withinE (varsT (t :: l)) 0 8) (by simp)
    unfold withinE at this
    split at this
    · cases this
    · omega
theorem ers_upd (σ : Sig) (r : Nat) : ers σ r = upd σ r none := by funext i; rw [xS]; rfl
theorem Grow.neO {σ0 σ : Sig} {s n b : Nat} {a : AV} {cs : List AV} {o : Obj} (h : Grow σ0 σ s a cs n) (hb : σ b = some (.obj o)) : ∀ s1 o m, a ≠ .own b s1 o m := fun s1 o m e => by
  rcases h with ⟨h, _⟩ | ⟨b', c, h0, h1, h2, h3⟩
  · rcases h with h | h <;> rw [h] at e <;> cases e
  · rw [h0] at e
    cases e
    rw [h2] at hb
    cases hb
set_option maxHeartbeats 2000000 in
set_option maxRecDepth 20000 in
theorem f53 (hG' : Γ 0 = some sortsT) (f : Fm) (terms : List Tm) (hl : Fits f.nodes.length) (hc : ∀ n ∈ f.nodes, NdFit n) (htl : Fits terms.length) (htc : ∀ t ∈ terms, Fits t.coeffs.length) : PCalls Tryz.prog Γ 53 [fmA f, slT terms] (.tup [fmA (putR f terms).1, int (putR f terms).2]) := by
  refine pcalls (ok53 Γ) fun σ => ?_
  simp only [go_sem, xQ, ↓reduceIte, xA, xM, xL, xT, xE, xN, xP, xR, xS, Tryz.f53]
  intro b4 hb4
  simp only [go_sem, xQ, ↓reduceIte, xA, xM, xL, xT, xE, xN, xP, xR, xS]
  intro b5 hb5
  obtain ⟨n54, hb5⟩ := un hb5
  have n54' : ¬ b4 = b5 := fun e => n54 e.symm
  simp only [go_sem, xQ, ↓reduceIte, xA, xM, xL, xT, xE, xN, xP, xR, xS, n54, n54']
  refine dcallB_use (f47 hG' f hl hc) rfl ?_
  simp only [go_sem, xQ, ↓reduceIte, xA, xM, xL, xT, xE, xN, xP, xR, xS]
  refine callB_use (f144 _ _) rfl ?_
  simp only [go_sem, xQ, ↓reduceIte, xA, xM, xL, xT, xE, xN, xP, xR, xS]
  refine callB_use (f135 [_, _] (by simp)) rfl ?_
  have e40 : ((4 : Int) = 0) = False := eq_false (by decide)
  by_cases h : putE1 f terms = 0
  · have h' := h
    unfold putE1 at h'
    have hE1 := (firstE_zero _).1 h'
    obtain ⟨hne, hl200, hv0, hv8, hok⟩ := check_ok (hE1 (checkE f) (by simp))
    have htn : (terms.length : Int) = f.vars := by
      have := (whenE_zero (by decide)).1 (hE1 (whenE (!decide ((terms.length : Int) = f.vars)) 2) (by simp))
      simpa using this
    simp only [go_sem, xQ, ↓reduceIte, xA, xM, xL, xT, xE, xN, xP, xR, xS, h', n54, n54']
    intro b7 hb7
    obtain ⟨n75, hb7⟩ := un hb7
    obtain ⟨n74, hb7⟩ := un hb7
    have n75' : ¬ b5 = b7 := fun e => n75 e.symm
    have n74' : ¬ b4 = b7 := fun e => n74 e.symm
    by_cases ht0 : (0 : Int) < terms.length
    · obtain ⟨t0, htq, hvq⟩ : ∃ t0, terms[0]? = some t0 ∧ varsT terms = t0.coeffs.length := by
        cases terms with
        | nil => simp at ht0
        | cons t l => exact ⟨t, rfl, rfl⟩
      have hg0 := tm_get0 htq
      rw [Nat.zero_mul] at hg0
      simp only [go_sem, xQ, ↓reduceIte, xA, xM, xL, xT, xE, xN, xP, xR, xS, h', n54, n54', n75, n75', n74, n74', ht0, hg0]
      refine callB_a (ACalls.mono (f154 terms htl _ (fun t => checkTermE t (varsT terms)) _ ?_) (fun r σ2 hrs => ?_)) rfl
      · intro x hx σ2 hext K hK
        exact callB_a (ACalls.mono (f155 x (varsT terms) (htc x hx) b7 σ2 (by rw [hext b7 (by simp [upd])]; simp [upd, int, hvq])) (fun r σ3 ⟨hr, hs⟩ => by subst hr; subst hs; exact hK)) rfl
      obtain ⟨hr, hs⟩ := hrs
      subst hr
      subst hs
      simp only [go_sem, xQ, ↓reduceIte, xA, xM, xL, xT, xE, xN, xP, xR, xS, n54, n54', n75, n75', n74, n74']
      refine callB_use (f135 _ (by simpa using htl)) rfl ?_
      by_cases h2 : putE2 terms = 0
      · obtain ⟨hv8', hvt⟩ := vars_terms h2
        have h2' := h2
        unfold putE2 at h2'
        simp only [go_sem, xQ, ↓reduceIte, xA, xM, xL, xT, xE, xN, xP, xR, xS, h2', n54, n54', n75, n75', n74, n74']
        have hr0 : putR f terms = (match putNs terms (varsT terms) f.nodes [] with | some l => (⟨varsT terms, l⟩, 0) | none => (fm0, 4)) := by rw [putR, if_pos h, if_pos h2]
        intro b9 hb9
        obtain ⟨n97, hb9⟩ := un hb9
        obtain ⟨n95, hb9⟩ := un hb9
        obtain ⟨n94, hb9⟩ := un hb9
        have n97' : ¬ b7 = b9 := fun e => n97 e.symm
        have n95' : ¬ b5 = b9 := fun e => n95 e.symm
        have n94' : ¬ b4 = b9 := fun e => n94 e.symm
        simp only [go_sem, xQ, ↓reduceIte, xA, xM, xL, xT, xE, xN, xP, xR, xS, n54, n54', n75, n75', n74, n74', n97, n97', n95, n95', n94, n94']
        refine callB_use (f137 f) rfl ?_
        simp only [go_sem, xQ, ↓reduceIte, xA, xM, xL, xT, xE, xN, xP, xR, xS]
        have hDs : Drop (upd (upd (upd (upd σ b4 (some (.row [int 0, .v (.slice none 0 0)] 2 1))) b5 (some (.row [int 0] 1 1))) b7 (some (.row [int (varsT terms)] 1 1))) b9 (some (.row [int (varsT terms), .v (.slice none 0 0)] 2 1))) σ := by repeat (first | exact Drop.refl _ | assumption | refine Drop.upd ?_ (by assumption))
        simp only [hvq, int, Int.natCast_zero, Int.cast_ofNat_Int] at hDs
        refine SemC.rangeL (xs := nodesX f.nodes) (D := noD) (pre := fun _ => True) (f := 220) (first := []) (captured := [.pp (fmC f) 0]) mixed (by simp only [go_sem, xQ, ↓reduceIte, xA, xM, xL, xT, xE, xN, xP, xR, xS]) (f220 f hl) (by decide) (by kernel_rfl) (by kernel_rfl) noD_ctl (fun _ _ _ _ _ _ => trivial)
          (fun k σ' => ∃ acc a, (putNs terms (varsT terms) f.nodes [] = putNs terms (varsT terms) (f.nodes.drop k) acc ∧ acc.length = k) ∧ σ' b4 = some (.row [int 0, .v (.slice none 0 0)] 2 1) ∧ σ' b5 = some (.row [int 0] 1 1) ∧ σ' b7 = some (.row [int (varsT terms)] 1 1) ∧ σ' b9 = some (.row [int (varsT terms), a] 2 1) ∧ Grow σ σ' 4 a (acc.flatMap ndC) k ∧ Drop σ' σ)
          (fun e σ' => (e = .ret ∧ putNs terms (varsT terms) f.nodes [] = none) ∧ σ' b4 = some (.row [int 0, .v (.slice none 0 0)] 2 1) ∧ σ' b5 = some (.row [int 4] 1 1) ∧ Drop σ' σ)
          (fun k x ρ1 σ1 => ∃ n b10 acc a, (f.nodes[k]? = some n ∧ ρ1 2 = .pp (fmC f) 0 ∧ ρ1 3 = .pp [slT terms] 0 ∧ ρ1 4 = .v (.pointer (some ⟨b4, 0, none⟩)) ∧ ρ1 5 = .v (.pointer (some ⟨b5, 0, none⟩)) ∧ ρ1 7 = .v (.pointer (some ⟨b7, 0, none⟩)) ∧ ρ1 9 = .v (.pointer (some ⟨b9, 0, none⟩)) ∧ ρ1 10 = .v (.pointer (some ⟨b10, 0, none⟩)) ∧ putNs terms (varsT terms) f.nodes [] = putNs terms (varsT terms) (f.nodes.drop k) acc ∧ acc.length = k) ∧ σ1 b10 = some (.row (atC n k) 5 1) ∧ σ1 b4 = some (.row [int 0, .v (.slice none 0 0)] 2 1) ∧ σ1 b5 = some (.row [int 0] 1 1) ∧ σ1 b7 = some (.row [int (varsT terms)] 1 1) ∧ σ1 b9 = some (.row [int (varsT terms), a] 2 1) ∧ Grow σ σ1 4 a (acc.flatMap ndC) k ∧ Drop σ1 σ)
          (by (intros; repeat' (first | exact Closed.row (fun h => h) | exact Closed.grow (fun _ h => h) | exact Closed.drop hDs (fun _ _ _ h => h) | exact Closed.map (fun h => h) | exact Closed.const _ | refine Closed.ex fun _ => ?_ | refine Closed.and ?_ ?_))) (by (intros; repeat' (first | exact Closed.row (fun h => h) | exact Closed.grow (fun _ h => h) | exact Closed.drop hDs (fun _ _ _ h => h) | exact Closed.map (fun h => h) | exact Closed.const _ | refine Closed.ex fun _ => ?_ | refine Closed.and ?_ ?_))) (by (intros; repeat' (first | exact Closed.row (fun h => h) | exact Closed.grow (fun _ h => h) | exact Closed.drop hDs (fun _ _ _ h => h) | exact Closed.map (fun h => h) | exact Closed.const _ | refine Closed.ex fun _ => ?_ | refine Closed.and ?_ ?_)))
          ?_ ?_ ?_ ?_ ?_
        · refine ⟨[], _, ⟨rfl, rfl⟩, ?_, ?_, ?_, ?_, .nil _ _ _, ?_⟩
          · simp [upd, n54, n54', n75, n75', n74, n74', n97, n97', n95, n95', n94, n94', int]
          · simp [upd, n54, n54', n75, n75', n74, n74', n97, n97', n95, n95', n94, n94', int]
          · simp [upd, n54, n54', n75, n75', n74, n74', n97, n97', n95, n95', n94, n94', int, hvq]
          · simp [upd, n54, n54', n75, n75', n74, n74', n97, n97', n95, n95', n94, n94', int, hvq]
          · repeat (first | exact Drop.refl _ | assumption | refine Drop.upd ?_ (by assumption))
        · rintro k x E σ' l hE hx ⟨acc, a, ⟨hz, hacc⟩, q4, q5, q7, q9, hG, hD⟩
          obtain ⟨n, hn, rfl⟩ := nodesX_get hx
          have e2 : E 2 = .pp (fmC f) 0 := by rw [hE 2 (by decide)]; simp only [go_sem, xQ, ↓reduceIte, xA, xM, xL, xT, xE, xN, xP, xR, xS]
          have e3 : E 3 = .pp [slT terms] 0 := by rw [hE 3 (by decide)]; simp only [go_sem, xQ, ↓reduceIte, xA, xM, xL, xT, xE, xN, xP, xR, xS]
          have e4 : E 4 = .v (.pointer (some ⟨b4, 0, none⟩)) := by rw [hE 4 (by decide)]; simp only [go_sem, xQ, ↓reduceIte, xA, xM, xL, xT, xE, xN, xP, xR, xS]
          have e5 : E 5 = .v (.pointer (some ⟨b5, 0, none⟩)) := by rw [hE 5 (by decide)]; simp only [go_sem, xQ, ↓reduceIte, xA, xM, xL, xT, xE, xN, xP, xR, xS]
          have e7 : E 7 = .v (.pointer (some ⟨b7, 0, none⟩)) := by rw [hE 7 (by decide)]; simp only [go_sem, xQ, ↓reduceIte, xA, xM, xL, xT, xE, xN, xP, xR, xS]
          have e9 : E 9 = .v (.pointer (some ⟨b9, 0, none⟩)) := by rw [hE 9 (by decide)]; simp only [go_sem, xQ, ↓reduceIte, xA, xM, xL, xT, xE, xN, xP, xR, xS]
          simp only [go_sem, xQ, ↓reduceIte, xA, xM, xL, xT, xE, xN, xP, xR, xS, e2, e3, e4, e5, e7, e9]
          intro b10 hb10
          have m4 : ¬ b4 = b10 := nn hb10 q4
          have m5 : ¬ b5 = b10 := nn hb10 q5
          have m7 : ¬ b7 = b10 := nn hb10 q7
          have m9 : ¬ b9 = b10 := nn hb10 q9
          simp only [go_sem, xQ, ↓reduceIte, xA, xM, xL, xT, xE, xN, xP, xR, xS, e2, e3, e4, e5, e7, e9, m4, m5, m7, m9]
          refine ⟨(Keep.refl _ _).upd (keep_none hb10), n, b10, acc, a, ?_⟩
          simp only [go_sem, xQ, ↓reduceIte, xA, xM, xL, xT, xE, xN, xP, xR, xS, e2, e3, e4, e5, e7, e9, m4, m5, m7, m9, hn, q4, q5, q7, q9]
          exact ⟨⟨hz, hacc⟩, (hG.updF hb10), hD.upd (hD.free hb10)⟩
        · rintro k x ρ1 σ' l hx ⟨n, b10, acc, a, ⟨hn, h2', h3, h4, h5, h7, h9, h10, hz, hacc⟩, q10, q4, q5, q7, q9, hG, hD⟩
          have hcn := hc n (mem_of_get hn)
          have hkn := hok k n hn
          simp only [go_sem, xQ, ↓reduceIte, xA, xM, xL, xT, xE, xN, xP, xR, xS, h2', h3, h4, h5, h7, h9, h10, q10, q4, q5, q7, q9]
          refine callB_use (f156 n 0 hcn) rfl ?_
          simp only [go_sem, xQ, ↓reduceIte, xA, xM, xL, xT, xE, xN, xP, xR, xS]
          intro b11 hb11
          have n4_11 : ¬ b4 = b11 := nn hb11 q4
          have n5_11 : ¬ b5 = b11 := nn hb11 q5
          have n7_11 : ¬ b7 = b11 := nn hb11 q7
          have n9_11 : ¬ b9 = b11 := nn hb11 q9
          have n10_11 : ¬ b10 = b11 := nn hb11 q10
          have n11_4 : ¬ b11 = b4 := fun e => n4_11 e.symm
          have n11_5 : ¬ b11 = b5 := fun e => n5_11 e.symm
          have n11_7 : ¬ b11 = b7 := fun e => n7_11 e.symm
          have n11_9 : ¬ b11 = b9 := fun e => n9_11 e.symm
          have n11_10 : ¬ b11 = b10 := fun e => n10_11 e.symm
          have h11 : True := trivial
          simp only [go_sem, xQ, ↓reduceIte, xA, xM, xL, xT, xE, xN, xP, xR, xS, h2', h3, h4, h5, h7, h9, h10, h11, q10, q4, q5, q7, q9, n11_4, n11_5, n11_7, n11_9, n11_10, n4_11, n5_11, n7_11, n9_11, n10_11]
          have hcases : n.kind = 0 ∨ n.kind = 1 ∨ n.kind = 2 ∨ n.kind = 3 ∨ n.kind = 4 := by have := hkn.lo; have := hkn.hi; omega
          rcases hcases with hk | hk | hk | hk | hk
          · have ht1 := (hkn.term (by omega)).2.1
            simp only [go_sem, xQ, ↓reduceIte, xA, xM, xL, xT, xE, xN, xP, xR, xS, h2', h3, h4, h5, h7, h9, h10, h11, q10, q4, q5, q7, q9, n11_4, n11_5, n11_7, n11_9, n11_10, n4_11, n5_11, n7_11, n9_11, n10_11, hk, hG', sortsT]
            refine callB_use (f157 (varsT terms) n.term.const (by omega)) rfl ?_
            simp only [go_sem, xQ, ↓reduceIte, xA, xM, xL, xT, xE, xN, xP, xR, xS, h2', h3, h4, h5, h7, h9, h10, h11, q10, q4, q5, q7, q9, n11_4, n11_5, n11_7, n11_9, n11_10, n4_11, n5_11, n7_11, n9_11, n10_11]
            refine SemC.loopK mixed n.term.coeffs.length (fun j ρ σ2 ds => (ds = [] ∧ ρ 2 = .pp (fmC f) 0 ∧ ρ 3 = .pp [slT terms] 0 ∧ ρ 4 = .v (.pointer (some ⟨b4, 0, none⟩)) ∧ ρ 5 = .v (.pointer (some ⟨b5, 0, none⟩)) ∧ ρ 7 = .v (.pointer (some ⟨b7, 0, none⟩)) ∧ ρ 9 = .v (.pointer (some ⟨b9, 0, none⟩)) ∧ ρ 10 = .v (.pointer (some ⟨b10, 0, none⟩)) ∧ ρ 11 = .v (.pointer (some ⟨b11, 0, none⟩)) ∧ ρ 69 = slI n.term.coeffs ∧ ρ 70 = int n.term.coeffs.length ∧ ρ 71 = int j) ∧ ∃ t, t.coeffs.length = varsT terms ∧ putT terms n.term.coeffs 0 ⟨List.replicate (varsT terms) 0, n.term.const⟩ = putT terms (n.term.coeffs.drop j) j t ∧ σ2 = upd σ' b11 (some (.row [int n.kind, slI t.coeffs, int t.const, slI (shiftN 0 n).kids] 4 1))) (by kernel_rfl) ⟨by simp only [go_sem, xQ, ↓reduceIte, xA, xM, xL, xT, xE, xN, xP, xR, xS, h2', h3, h4, h5, h7, h9, h10, h11, q10, q4, q5, q7, q9, n11_4, n11_5, n11_7, n11_9, n11_10, n4_11, n5_11, n7_11, n9_11, n10_11], ⟨List.replicate (varsT terms) 0, n.term.const⟩, List.length_replicate, rfl, by simp [upd_upd, putL, hk, slI, int, shiftN]⟩ ?_
            rintro j ρ σ2 ds hj ⟨⟨rfl, h2', h3, h4, h5, h7, h9, h10, h11, h69, h70, h71⟩, t, htl', hz', rfl⟩
            rcases get_or_end n.term.coeffs j hj with ⟨x, hx, hlt, hd⟩ | hjj
            · obtain ⟨y, hy⟩ : ∃ y, terms[j]? = some y := ⟨terms[j]'(by have := lt_of_getElem? hx; omega), List.getElem?_eq_getElem _⟩
              have hyl := hvt y (mem_of_get hy)
              rw [hd, putT, hy] at hz'
              simp only [go_sem, xQ, ↓reduceIte, xA, xM, xL, xT, xE, xN, xP, xR, xS, h2', h3, h4, h5, h7, h9, h10, h11, q10, q4, q5, q7, q9, n11_4, n11_5, n11_7, n11_9, n11_10, n4_11, n5_11, n7_11, n9_11, n10_11, h69, h70, h71, hlt, hx, ↓tm_part hy, (lt_of_getElem? hy)]
              refine callB_use (f158 t y x (by omega) (by omega)) rfl ?_
              simp only [go_sem, xQ, ↓reduceIte, xA, xM, xL, xT, xE, xN, xP, xR, xS, h2', h3, h4, h5, h7, h9, h10, h11, q10, q4, q5, q7, q9, n11_4, n11_5, n11_7, n11_9, n11_10, n4_11, n5_11, n7_11, n9_11, n10_11, h69, h70, h71]
              simp only [go_sem, xQ, ↓reduceIte, xA, xM, xL, xT, xE, xN, xP, xR, xS, upd_upd, putL]
              refine callB_use (f159 (plusT t y x) (by rw [plusT]; simp only [plusC_len]; omega)) rfl ?_
              simp only [go_sem, xQ, ↓reduceIte, xA, xM, xL, xT, xE, xN, xP, xR, xS, h2', h3, h4, h5, h7, h9, h10, h11, q10, q4, q5, q7, q9, n11_4, n11_5, n11_7, n11_9, n11_10, n4_11, n5_11, n7_11, n9_11, n10_11, h69, h70, h71, upd_upd, putL]
              have hpl : (plusT t y x).coeffs.length = varsT terms := by rw [plusT]; simp only [plusC_len]; omega
              by_cases hL : largeE (plusT t y x) = 0
              · simp only [hL, if_true] at hz'
                simp only [go_sem, xQ, ↓reduceIte, xA, xM, xL, xT, xE, xN, xP, xR, xS, h2', h3, h4, h5, h7, h9, h10, h11, q10, q4, q5, q7, q9, n11_4, n11_5, n11_7, n11_9, n11_10, n4_11, n5_11, n7_11, n9_11, n10_11, hL, h69, h70, h71]
                exact ⟨lt_of_getElem? hx, by rw [wrap_succ _ (by have := lt_of_getElem? hx; omega)], plusT t y x, hpl, hz', rfl⟩
              · have hL4 : largeE (plusT t y x) = 4 := by rcases large_04 (plusT t y x) with h | h; exact absurd h hL; exact h
                simp only [hL, if_false] at hz'
                simp only [go_sem, xQ, ↓reduceIte, xA, xM, xL, xT, xE, xN, xP, xR, xS, h2', h3, h4, h5, h7, h9, h10, h11, q10, q4, q5, q7, q9, n11_4, n11_5, n11_7, n11_9, n11_10, n4_11, n5_11, n7_11, n9_11, n10_11, hL4, h69, h70, h71, e40, n54, n54']
                rw [drop_of_get hn, putNs, putNd, if_pos (by omega), hz'] at hz
                exact ⟨(((Keep.refl _ _).upd (keep_none hb11)).upd (keep_row (cs := [int 0, .v (.slice none 0 0)]) (s := 2) (c := 1) (by simp [upd, n4_11, n11_4, q4]) (fun h => h))).upd (keep_row (cs := [int 0]) (s := 1) (c := 1) (by simp [upd, n5_11, n11_5, n54, n54', q5]) (fun h => h)), hz, ((hD.upd (hD.free hb11)).upd hb4).upd hb5⟩
            · subst hjj
              rw [List.drop_length, putT] at hz'
              simp only [go_sem, xQ, ↓reduceIte, xA, xM, xL, xT, xE, xN, xP, xR, xS, h2', h3, h4, h5, h7, h9, h10, h11, q10, q4, q5, q7, q9, n11_4, n11_5, n11_7, n11_9, n11_10, n4_11, n5_11, n7_11, n9_11, n10_11, h69, h70, h71, Nat.lt_irrefl]
              simp only [go_sem, xQ, ↓reduceIte, xA, xM, xL, xT, xE, xN, xP, xR, xS, h2', h3, h4, h5, h7, h9, h10, h11, q10, q4, q5, q7, q9, n11_4, n11_5, n11_7, n11_9, n11_10, n4_11, n5_11, n7_11, n9_11, n10_11]
              refine appB_sl (appT_sl el64 tk216 by216 el64 (by decide) rfl (by decide)) ((hD.upd (hD.free hb11))) (hG.upd hb11) rfl rfl (by have := lt_of_getElem? hn; omega) (fun a' σ3 hD3 hO3 hG3 => ?_)
              have w4 : σ3 b4 = some (.row [int 0, .v (.slice none 0 0)] 2 1) := by rw [hO3 b4 (hG.neS q4 (by decide)) (by simp [upd, n4_11, n11_4, q4])]; simp [upd, n4_11, n11_4, q4]
              have w5 : σ3 b5 = some (.row [int 0] 1 1) := by rw [hO3 b5 (hG.neS q5 (by decide)) (by simp [upd, n5_11, n11_5, q5])]; simp [upd, n5_11, n11_5, q5]
              have w7 : σ3 b7 = some (.row [int (varsT terms)] 1 1) := by rw [hO3 b7 (hG.neS q7 (by decide)) (by simp [upd, n7_11, n11_7, q7])]; simp [upd, n7_11, n11_7, q7]
              have w9 : σ3 b9 = some (.row [int (varsT terms), a] 2 1) := by rw [hO3 b9 (hG.neS q9 (by decide)) (by simp [upd, n9_11, n11_9, q9])]; simp [upd, n9_11, n11_9, q9]
              have hc2 := hG3.cellsX
              have ho2 := hG3.oneX
              simp only [go_sem, xQ, ↓reduceIte, xA, xM, xL, xT, xE, xN, xP, xR, xS, h2', h3, h4, h5, h7, h9, h10, h11, q10, q4, q5, q7, q9, n11_4, n11_5, n11_7, n11_9, n11_10, n4_11, n5_11, n7_11, n9_11, n10_11, w4, w5, w7, w9, hc2, ho2, n94, n94', n95, n95', n97, n97']
              rw [drop_of_get hn, putNs, putNd, if_pos (by omega), hz', Option.map_some] at hz
              refine ⟨((Keep.refl _ _).upd (keep_none hb11)).trans ((keep_others hO3 (hG.upd hb11)).trans ((Keep.refl _ _).upd (keep_row w9 (fun h => h)))), acc ++ [⟨n.kind, t, (shiftN 0 n).kids⟩], a', ⟨hz, by simp [hacc]⟩, by simp, ?_, ?_⟩
              · have := hG3.updW (hG3.neS w9 (by decide)) (some (.row [int (varsT terms), a'] 2 1))
                simpa [ndC, slI, int, ints] using this
              · exact hD3.upd hb9
          · have ht1 := (hkn.term (by omega)).2.1
            simp only [go_sem, xQ, ↓reduceIte, xA, xM, xL, xT, xE, xN, xP, xR, xS, h2', h3, h4, h5, h7, h9, h10, h11, q10, q4, q5, q7, q9, n11_4, n11_5, n11_7, n11_9, n11_10, n4_11, n5_11, n7_11, n9_11, n10_11, hk, hG', sortsT]
            refine callB_use (f157 (varsT terms) n.term.const (by omega)) rfl ?_
            simp only [go_sem, xQ, ↓reduceIte, xA, xM, xL, xT, xE, xN, xP, xR, xS, h2', h3, h4, h5, h7, h9, h10, h11, q10, q4, q5, q7, q9, n11_4, n11_5, n11_7, n11_9, n11_10, n4_11, n5_11, n7_11, n9_11, n10_11]
            refine SemC.loopK mixed n.term.coeffs.length (fun j ρ σ2 ds => (ds = [] ∧ ρ 2 = .pp (fmC f) 0 ∧ ρ 3 = .pp [slT terms] 0 ∧ ρ 4 = .v (.pointer (some ⟨b4, 0, none⟩)) ∧ ρ 5 = .v (.pointer (some ⟨b5, 0, none⟩)) ∧ ρ 7 = .v (.pointer (some ⟨b7, 0, none⟩)) ∧ ρ 9 = .v (.pointer (some ⟨b9, 0, none⟩)) ∧ ρ 10 = .v (.pointer (some ⟨b10, 0, none⟩)) ∧ ρ 11 = .v (.pointer (some ⟨b11, 0, none⟩)) ∧ ρ 69 = slI n.term.coeffs ∧ ρ 70 = int n.term.coeffs.length ∧ ρ 71 = int j) ∧ ∃ t, t.coeffs.length = varsT terms ∧ putT terms n.term.coeffs 0 ⟨List.replicate (varsT terms) 0, n.term.const⟩ = putT terms (n.term.coeffs.drop j) j t ∧ σ2 = upd σ' b11 (some (.row [int n.kind, slI t.coeffs, int t.const, slI (shiftN 0 n).kids] 4 1))) (by kernel_rfl) ⟨by simp only [go_sem, xQ, ↓reduceIte, xA, xM, xL, xT, xE, xN, xP, xR, xS, h2', h3, h4, h5, h7, h9, h10, h11, q10, q4, q5, q7, q9, n11_4, n11_5, n11_7, n11_9, n11_10, n4_11, n5_11, n7_11, n9_11, n10_11], ⟨List.replicate (varsT terms) 0, n.term.const⟩, List.length_replicate, rfl, by simp [upd_upd, putL, hk, slI, int, shiftN]⟩ ?_
            rintro j ρ σ2 ds hj ⟨⟨rfl, h2', h3, h4, h5, h7, h9, h10, h11, h69, h70, h71⟩, t, htl', hz', rfl⟩
            rcases get_or_end n.term.coeffs j hj with ⟨x, hx, hlt, hd⟩ | hjj
            · obtain ⟨y, hy⟩ : ∃ y, terms[j]? = some y := ⟨terms[j]'(by have := lt_of_getElem? hx; omega), List.getElem?_eq_getElem _⟩
              have hyl := hvt y (mem_of_get hy)
              rw [hd, putT, hy] at hz'
              simp only [go_sem, xQ, ↓reduceIte, xA, xM, xL, xT, xE, xN, xP, xR, xS, h2', h3, h4, h5, h7, h9, h10, h11, q10, q4, q5, q7, q9, n11_4, n11_5, n11_7, n11_9, n11_10, n4_11, n5_11, n7_11, n9_11, n10_11, h69, h70, h71, hlt, hx, ↓tm_part hy, (lt_of_getElem? hy)]
              refine callB_use (f158 t y x (by omega) (by omega)) rfl ?_
              simp only [go_sem, xQ, ↓reduceIte, xA, xM, xL, xT, xE, xN, xP, xR, xS, h2', h3, h4, h5, h7, h9, h10, h11, q10, q4, q5, q7, q9, n11_4, n11_5, n11_7, n11_9, n11_10, n4_11, n5_11, n7_11, n9_11, n10_11, h69, h70, h71]
              simp only [go_sem, xQ, ↓reduceIte, xA, xM, xL, xT, xE, xN, xP, xR, xS, upd_upd, putL]
              refine callB_use (f159 (plusT t y x) (by rw [plusT]; simp only [plusC_len]; omega)) rfl ?_
              simp only [go_sem, xQ, ↓reduceIte, xA, xM, xL, xT, xE, xN, xP, xR, xS, h2', h3, h4, h5, h7, h9, h10, h11, q10, q4, q5, q7, q9, n11_4, n11_5, n11_7, n11_9, n11_10, n4_11, n5_11, n7_11, n9_11, n10_11, h69, h70, h71, upd_upd, putL]
              have hpl : (plusT t y x).coeffs.length = varsT terms := by rw [plusT]; simp only [plusC_len]; omega
              by_cases hL : largeE (plusT t y x) = 0
              · simp only [hL, if_true] at hz'
                simp only [go_sem, xQ, ↓reduceIte, xA, xM, xL, xT, xE, xN, xP, xR, xS, h2', h3, h4, h5, h7, h9, h10, h11, q10, q4, q5, q7, q9, n11_4, n11_5, n11_7, n11_9, n11_10, n4_11, n5_11, n7_11, n9_11, n10_11, hL, h69, h70, h71]
                exact ⟨lt_of_getElem? hx, by rw [wrap_succ _ (by have := lt_of_getElem? hx; omega)], plusT t y x, hpl, hz', rfl⟩
              · have hL4 : largeE (plusT t y x) = 4 := by rcases large_04 (plusT t y x) with h | h; exact absurd h hL; exact h
                simp only [hL, if_false] at hz'
                simp only [go_sem, xQ, ↓reduceIte, xA, xM, xL, xT, xE, xN, xP, xR, xS, h2', h3, h4, h5, h7, h9, h10, h11, q10, q4, q5, q7, q9, n11_4, n11_5, n11_7, n11_9, n11_10, n4_11, n5_11, n7_11, n9_11, n10_11, hL4, h69, h70, h71, e40, n54, n54']
                rw [drop_of_get hn, putNs, putNd, if_pos (by omega), hz'] at hz
                exact ⟨(((Keep.refl _ _).upd (keep_none hb11)).upd (keep_row (cs := [int 0, .v (.slice none 0 0)]) (s := 2) (c := 1) (by simp [upd, n4_11, n11_4, q4]) (fun h => h))).upd (keep_row (cs := [int 0]) (s := 1) (c := 1) (by simp [upd, n5_11, n11_5, n54, n54', q5]) (fun h => h)), hz, ((hD.upd (hD.free hb11)).upd hb4).upd hb5⟩
            · subst hjj
              rw [List.drop_length, putT] at hz'
              simp only [go_sem, xQ, ↓reduceIte, xA, xM, xL, xT, xE, xN, xP, xR, xS, h2', h3, h4, h5, h7, h9, h10, h11, q10, q4, q5, q7, q9, n11_4, n11_5, n11_7, n11_9, n11_10, n4_11, n5_11, n7_11, n9_11, n10_11, h69, h70, h71, Nat.lt_irrefl]
              simp only [go_sem, xQ, ↓reduceIte, xA, xM, xL, xT, xE, xN, xP, xR, xS, h2', h3, h4, h5, h7, h9, h10, h11, q10, q4, q5, q7, q9, n11_4, n11_5, n11_7, n11_9, n11_10, n4_11, n5_11, n7_11, n9_11, n10_11]
              refine appB_sl (appT_sl el64 tk216 by216 el64 (by decide) rfl (by decide)) ((hD.upd (hD.free hb11))) (hG.upd hb11) rfl rfl (by have := lt_of_getElem? hn; omega) (fun a' σ3 hD3 hO3 hG3 => ?_)
              have w4 : σ3 b4 = some (.row [int 0, .v (.slice none 0 0)] 2 1) := by rw [hO3 b4 (hG.neS q4 (by decide)) (by simp [upd, n4_11, n11_4, q4])]; simp [upd, n4_11, n11_4, q4]
              have w5 : σ3 b5 = some (.row [int 0] 1 1) := by rw [hO3 b5 (hG.neS q5 (by decide)) (by simp [upd, n5_11, n11_5, q5])]; simp [upd, n5_11, n11_5, q5]
              have w7 : σ3 b7 = some (.row [int (varsT terms)] 1 1) := by rw [hO3 b7 (hG.neS q7 (by decide)) (by simp [upd, n7_11, n11_7, q7])]; simp [upd, n7_11, n11_7, q7]
              have w9 : σ3 b9 = some (.row [int (varsT terms), a] 2 1) := by rw [hO3 b9 (hG.neS q9 (by decide)) (by simp [upd, n9_11, n11_9, q9])]; simp [upd, n9_11, n11_9, q9]
              have hc2 := hG3.cellsX
              have ho2 := hG3.oneX
              simp only [go_sem, xQ, ↓reduceIte, xA, xM, xL, xT, xE, xN, xP, xR, xS, h2', h3, h4, h5, h7, h9, h10, h11, q10, q4, q5, q7, q9, n11_4, n11_5, n11_7, n11_9, n11_10, n4_11, n5_11, n7_11, n9_11, n10_11, w4, w5, w7, w9, hc2, ho2, n94, n94', n95, n95', n97, n97']
              rw [drop_of_get hn, putNs, putNd, if_pos (by omega), hz', Option.map_some] at hz
              refine ⟨((Keep.refl _ _).upd (keep_none hb11)).trans ((keep_others hO3 (hG.upd hb11)).trans ((Keep.refl _ _).upd (keep_row w9 (fun h => h)))), acc ++ [⟨n.kind, t, (shiftN 0 n).kids⟩], a', ⟨hz, by simp [hacc]⟩, by simp, ?_, ?_⟩
              · have := hG3.updW (hG3.neS w9 (by decide)) (some (.row [int (varsT terms), a'] 2 1))
                simpa [ndC, slI, int, ints] using this
              · exact hD3.upd hb9
          · simp only [go_sem, xQ, ↓reduceIte, xA, xM, xL, xT, xE, xN, xP, xR, xS, h2', h3, h4, h5, h7, h9, h10, h11, q10, q4, q5, q7, q9, n11_4, n11_5, n11_7, n11_9, n11_10, n4_11, n5_11, n7_11, n9_11, n10_11, hk, hG', sortsT]
            simp only [go_sem, xQ, ↓reduceIte, xA, xM, xL, xT, xE, xN, xP, xR, xS, h2', h3, h4, h5, h7, h9, h10, h11, q10, q4, q5, q7, q9, n11_4, n11_5, n11_7, n11_9, n11_10, n4_11, n5_11, n7_11, n9_11, n10_11]
            refine appB_sl (appT_sl el64 tk216 by216 el64 (by decide) rfl (by decide)) ((hD.upd (hD.free hb11))) (hG.upd hb11) rfl rfl (by have := lt_of_getElem? hn; omega) (fun a' σ3 hD3 hO3 hG3 => ?_)
            have w4 : σ3 b4 = some (.row [int 0, .v (.slice none 0 0)] 2 1) := by rw [hO3 b4 (hG.neS q4 (by decide)) (by simp [upd, n4_11, n11_4, q4])]; simp [upd, n4_11, n11_4, q4]
            have w5 : σ3 b5 = some (.row [int 0] 1 1) := by rw [hO3 b5 (hG.neS q5 (by decide)) (by simp [upd, n5_11, n11_5, q5])]; simp [upd, n5_11, n11_5, q5]
            have w7 : σ3 b7 = some (.row [int (varsT terms)] 1 1) := by rw [hO3 b7 (hG.neS q7 (by decide)) (by simp [upd, n7_11, n11_7, q7])]; simp [upd, n7_11, n11_7, q7]
            have w9 : σ3 b9 = some (.row [int (varsT terms), a] 2 1) := by rw [hO3 b9 (hG.neS q9 (by decide)) (by simp [upd, n9_11, n11_9, q9])]; simp [upd, n9_11, n11_9, q9]
            have hc2 := hG3.cellsX
            have ho2 := hG3.oneX
            simp only [go_sem, xQ, ↓reduceIte, xA, xM, xL, xT, xE, xN, xP, xR, xS, h2', h3, h4, h5, h7, h9, h10, h11, q10, q4, q5, q7, q9, n11_4, n11_5, n11_7, n11_9, n11_10, n4_11, n5_11, n7_11, n9_11, n10_11, w4, w5, w7, w9, hc2, ho2, n94, n94', n95, n95', n97, n97']
            rw [drop_of_get hn, putNs, putNd, if_neg (by omega)] at hz
            refine ⟨((Keep.refl _ _).upd (keep_none hb11)).trans ((keep_others hO3 (hG.upd hb11)).trans ((Keep.refl _ _).upd (keep_row w9 (fun h => h)))), acc ++ [shiftN 0 n], a', ⟨hz, by simp [hacc]⟩, by simp, ?_, ?_⟩
            · have := hG3.updW (hG3.neS w9 (by decide)) (some (.row [int (varsT terms), a'] 2 1))
              simpa [ndC, slI, int, ints] using this
            · exact hD3.upd hb9
          · simp only [go_sem, xQ, ↓reduceIte, xA, xM, xL, xT, xE, xN, xP, xR, xS, h2', h3, h4, h5, h7, h9, h10, h11, q10, q4, q5, q7, q9, n11_4, n11_5, n11_7, n11_9, n11_10, n4_11, n5_11, n7_11, n9_11, n10_11, hk, hG', sortsT]
            simp only [go_sem, xQ, ↓reduceIte, xA, xM, xL, xT, xE, xN, xP, xR, xS, h2', h3, h4, h5, h7, h9, h10, h11, q10, q4, q5, q7, q9, n11_4, n11_5, n11_7, n11_9, n11_10, n4_11, n5_11, n7_11, n9_11, n10_11]
            refine appB_sl (appT_sl el64 tk216 by216 el64 (by decide) rfl (by decide)) ((hD.upd (hD.free hb11))) (hG.upd hb11) rfl rfl (by have := lt_of_getElem? hn; omega) (fun a' σ3 hD3 hO3 hG3 => ?_)
            have w4 : σ3 b4 = some (.row [int 0, .v (.slice none 0 0)] 2 1) := by rw [hO3 b4 (hG.neS q4 (by decide)) (by simp [upd, n4_11, n11_4, q4])]; simp [upd, n4_11, n11_4, q4]
            have w5 : σ3 b5 = some (.row [int 0] 1 1) := by rw [hO3 b5 (hG.neS q5 (by decide)) (by simp [upd, n5_11, n11_5, q5])]; simp [upd, n5_11, n11_5, q5]
            have w7 : σ3 b7 = some (.row [int (varsT terms)] 1 1) := by rw [hO3 b7 (hG.neS q7 (by decide)) (by simp [upd, n7_11, n11_7, q7])]; simp [upd, n7_11, n11_7, q7]
            have w9 : σ3 b9 = some (.row [int (varsT terms), a] 2 1) := by rw [hO3 b9 (hG.neS q9 (by decide)) (by simp [upd, n9_11, n11_9, q9])]; simp [upd, n9_11, n11_9, q9]
            have hc2 := hG3.cellsX
            have ho2 := hG3.oneX
            simp only [go_sem, xQ, ↓reduceIte, xA, xM, xL, xT, xE, xN, xP, xR, xS, h2', h3, h4, h5, h7, h9, h10, h11, q10, q4, q5, q7, q9, n11_4, n11_5, n11_7, n11_9, n11_10, n4_11, n5_11, n7_11, n9_11, n10_11, w4, w5, w7, w9, hc2, ho2, n94, n94', n95, n95', n97, n97']
            rw [drop_of_get hn, putNs, putNd, if_neg (by omega)] at hz
            refine ⟨((Keep.refl _ _).upd (keep_none hb11)).trans ((keep_others hO3 (hG.upd hb11)).trans ((Keep.refl _ _).upd (keep_row w9 (fun h => h)))), acc ++ [shiftN 0 n], a', ⟨hz, by simp [hacc]⟩, by simp, ?_, ?_⟩
            · have := hG3.updW (hG3.neS w9 (by decide)) (some (.row [int (varsT terms), a'] 2 1))
              simpa [ndC, slI, int, ints] using this
            · exact hD3.upd hb9
          · simp only [go_sem, xQ, ↓reduceIte, xA, xM, xL, xT, xE, xN, xP, xR, xS, h2', h3, h4, h5, h7, h9, h10, h11, q10, q4, q5, q7, q9, n11_4, n11_5, n11_7, n11_9, n11_10, n4_11, n5_11, n7_11, n9_11, n10_11, hk, hG', sortsT]
            simp only [go_sem, xQ, ↓reduceIte, xA, xM, xL, xT, xE, xN, xP, xR, xS, h2', h3, h4, h5, h7, h9, h10, h11, q10, q4, q5, q7, q9, n11_4, n11_5, n11_7, n11_9, n11_10, n4_11, n5_11, n7_11, n9_11, n10_11]
            refine appB_sl (appT_sl el64 tk216 by216 el64 (by decide) rfl (by decide)) ((hD.upd (hD.free hb11))) (hG.upd hb11) rfl rfl (by have := lt_of_getElem? hn; omega) (fun a' σ3 hD3 hO3 hG3 => ?_)
            have w4 : σ3 b4 = some (.row [int 0, .v (.slice none 0 0)] 2 1) := by rw [hO3 b4 (hG.neS q4 (by decide)) (by simp [upd, n4_11, n11_4, q4])]; simp [upd, n4_11, n11_4, q4]
            have w5 : σ3 b5 = some (.row [int 0] 1 1) := by rw [hO3 b5 (hG.neS q5 (by decide)) (by simp [upd, n5_11, n11_5, q5])]; simp [upd, n5_11, n11_5, q5]
            have w7 : σ3 b7 = some (.row [int (varsT terms)] 1 1) := by rw [hO3 b7 (hG.neS q7 (by decide)) (by simp [upd, n7_11, n11_7, q7])]; simp [upd, n7_11, n11_7, q7]
            have w9 : σ3 b9 = some (.row [int (varsT terms), a] 2 1) := by rw [hO3 b9 (hG.neS q9 (by decide)) (by simp [upd, n9_11, n11_9, q9])]; simp [upd, n9_11, n11_9, q9]
            have hc2 := hG3.cellsX
            have ho2 := hG3.oneX
            simp only [go_sem, xQ, ↓reduceIte, xA, xM, xL, xT, xE, xN, xP, xR, xS, h2', h3, h4, h5, h7, h9, h10, h11, q10, q4, q5, q7, q9, n11_4, n11_5, n11_7, n11_9, n11_10, n4_11, n5_11, n7_11, n9_11, n10_11, w4, w5, w7, w9, hc2, ho2, n94, n94', n95, n95', n97, n97']
            rw [drop_of_get hn, putNs, putNd, if_neg (by omega)] at hz
            refine ⟨((Keep.refl _ _).upd (keep_none hb11)).trans ((keep_others hO3 (hG.upd hb11)).trans ((Keep.refl _ _).upd (keep_row w9 (fun h => h)))), acc ++ [shiftN 0 n], a', ⟨hz, by simp [hacc]⟩, by simp, ?_, ?_⟩
            · have := hG3.updW (hG3.neS w9 (by decide)) (some (.row [int (varsT terms), a'] 2 1))
              simpa [ndC, slI, int, ints] using this
            · exact hD3.upd hb9
        · rintro σ' r hr' ⟨acc, a, ⟨hz, hacc⟩, q4, q5, q7, q9, hG, hD⟩ hd
          have u4 : ¬ b4 = r := dn hd q4
          have u4' : ¬ r = b4 := fun e => u4 e.symm
          have u5 : ¬ b5 = r := dn hd q5
          have u5' : ¬ r = b5 := fun e => u5 e.symm
          have u9 : ¬ b9 = r := dn hd q9
          have u9' : ¬ r = b9 := fun e => u9 e.symm
          have hc2 := hG.cellsX
          have ho2 := hG.oneX
          have hbr : σ r = none := (un (un (un (un hr').2).2).2).2
          have hlen : (nodesX f.nodes).length = f.nodes.length := by rw [nodesX, List.length_mapIdx]
          rw [hlen, List.drop_length, putNs] at hz
          rw [hr0, hz]
          simp only [go_sem, xQ, ↓reduceIte, xA, xM, xL, xT, xE, xN, xP, xR, xS, q4, q5, q9, hd, u4, u4', u5, u5', u9, u9', n54, n54', n94, n94', n95, n95', hc2, ho2]
          have hnr := hG.neO hd
          have hn4 := hG.neS q4 (by decide)
          have hn5 := hG.neS q5 (by decide)
          have hDf : ∀ x y, Drop (upd (upd σ' b4 x) b5 y) σ := fun x y => (hD.upd hb4).upd hb5
          refine ⟨.tup (.cons (.agg (.cons (.refl _) (.cons ?_ .nil))) (.cons (.refl _) .nil)), ?_⟩
          · rw [ers_upd]
            rw [hacc]
            exact ((((hG.updW hn4 _).updW hn5 _).updW hnr none).retP ((hDf _ _).upd hbr)).1
          · exact (hDf _ _).ersX hbr
        · rintro e σ' r hr' ⟨⟨rfl, hz⟩, q4, q5, hD⟩ hd
          have u4 : ¬ b4 = r := dn hd q4
          have u4' : ¬ r = b4 := fun e => u4 e.symm
          have u5 : ¬ b5 = r := dn hd q5
          have u5' : ¬ r = b5 := fun e => u5 e.symm
          rw [hr0, hz]
          simp only [go_sem, xQ, ↓reduceIte, xA, xM, xL, xT, xE, xN, xP, xR, xS, q4, q5, hd, u4, u4', u5, u5', n54, n54', fm0]
          exact ⟨.tup (.cons (.agg (.cons (.refl _) (.cons .nil .nil))) (.cons (.refl _) .nil)), hD.ersX (un (un (un (un hr').2).2).2).2⟩
      · have hr : putR f terms = (fm0, putE2 terms) := by rw [putR, if_pos h, if_neg h2]
        have h2' := h2
        unfold putE2 at h2'
        rw [hr]
        simp only [go_sem, xQ, ↓reduceIte, xA, xM, xL, xT, xE, xN, xP, xR, xS, h2', fm0, n54, n54', n75, n75', n74, n74', putE2]
        exact ⟨.tup (.cons (.agg (.cons (.refl _) (.cons .nil .nil))) (.cons (.refl _) .nil)), by repeat (first | exact Drop.refl _ | assumption | refine Drop.upd ?_ (by assumption))⟩
    · have hvq : varsT terms = 0 := by
        cases terms with
        | nil => rfl
        | cons t l => exact absurd (by simp) ht0
      simp only [go_sem, xQ, ↓reduceIte, xA, xM, xL, xT, xE, xN, xP, xR, xS, h', n54, n54', n75, n75', n74, n74', ht0]
      refine callB_a (ACalls.mono (f154 terms htl _ (fun t => checkTermE t (varsT terms)) _ ?_) (fun r σ2 hrs => ?_)) rfl
      · intro x hx σ2 hext K hK
        exact callB_a (ACalls.mono (f155 x (varsT terms) (htc x hx) b7 σ2 (by rw [hext b7 (by simp [upd])]; simp [upd, int, hvq])) (fun r σ3 ⟨hr, hs⟩ => by subst hr; subst hs; exact hK)) rfl
      obtain ⟨hr, hs⟩ := hrs
      subst hr
      subst hs
      simp only [go_sem, xQ, ↓reduceIte, xA, xM, xL, xT, xE, xN, xP, xR, xS, n54, n54', n75, n75', n74, n74']
      refine callB_use (f135 _ (by simpa using htl)) rfl ?_
      by_cases h2 : putE2 terms = 0
      · obtain ⟨hv8', hvt⟩ := vars_terms h2
        have h2' := h2
        unfold putE2 at h2'
        simp only [go_sem, xQ, ↓reduceIte, xA, xM, xL, xT, xE, xN, xP, xR, xS, h2', n54, n54', n75, n75', n74, n74']
        have hr0 : putR f terms = (match putNs terms (varsT terms) f.nodes [] with | some l => (⟨varsT terms, l⟩, 0) | none => (fm0, 4)) := by rw [putR, if_pos h, if_pos h2]
        intro b9 hb9
        obtain ⟨n97, hb9⟩ := un hb9
        obtain ⟨n95, hb9⟩ := un hb9
        obtain ⟨n94, hb9⟩ := un hb9
        have n97' : ¬ b7 = b9 := fun e => n97 e.symm
        have n95' : ¬ b5 = b9 := fun e => n95 e.symm
        have n94' : ¬ b4 = b9 := fun e => n94 e.symm
        simp only [go_sem, xQ, ↓reduceIte, xA, xM, xL, xT, xE, xN, xP, xR, xS, n54, n54', n75, n75', n74, n74', n97, n97', n95, n95', n94, n94']
        refine callB_use (f137 f) rfl ?_
        simp only [go_sem, xQ, ↓reduceIte, xA, xM, xL, xT, xE, xN, xP, xR, xS]
        have hDs : Drop (upd (upd (upd (upd σ b4 (some (.row [int 0, .v (.slice none 0 0)] 2 1))) b5 (some (.row [int 0] 1 1))) b7 (some (.row [int (varsT terms)] 1 1))) b9 (some (.row [int (varsT terms), .v (.slice none 0 0)] 2 1))) σ := by repeat (first | exact Drop.refl _ | assumption | refine Drop.upd ?_ (by assumption))
        simp only [hvq, int, Int.natCast_zero, Int.cast_ofNat_Int] at hDs
        refine SemC.rangeL (xs := nodesX f.nodes) (D := noD) (pre := fun _ => True) (f := 220) (first := []) (captured := [.pp (fmC f) 0]) mixed (by simp only [go_sem, xQ, ↓reduceIte, xA, xM, xL, xT, xE, xN, xP, xR, xS]) (f220 f hl) (by decide) (by kernel_rfl) (by kernel_rfl) noD_ctl (fun _ _ _ _ _ _ => trivial)
          (fun k σ' => ∃ acc a, (putNs terms (varsT terms) f.nodes [] = putNs terms (varsT terms) (f.nodes.drop k) acc ∧ acc.length = k) ∧ σ' b4 = some (.row [int 0, .v (.slice none 0 0)] 2 1) ∧ σ' b5 = some (.row [int 0] 1 1) ∧ σ' b7 = some (.row [int (varsT terms)] 1 1) ∧ σ' b9 = some (.row [int (varsT terms), a] 2 1) ∧ Grow σ σ' 4 a (acc.flatMap ndC) k ∧ Drop σ' σ)
          (fun e σ' => (e = .ret ∧ putNs terms (varsT terms) f.nodes [] = none) ∧ σ' b4 = some (.row [int 0, .v (.slice none 0 0)] 2 1) ∧ σ' b5 = some (.row [int 4] 1 1) ∧ Drop σ' σ)
          (fun k x ρ1 σ1 => ∃ n b10 acc a, (f.nodes[k]? = some n ∧ ρ1 2 = .pp (fmC f) 0 ∧ ρ1 3 = .pp [slT terms] 0 ∧ ρ1 4 = .v (.pointer (some ⟨b4, 0, none⟩)) ∧ ρ1 5 = .v (.pointer (some ⟨b5, 0, none⟩)) ∧ ρ1 7 = .v (.pointer (some ⟨b7, 0, none⟩)) ∧ ρ1 9 = .v (.pointer (some ⟨b9, 0, none⟩)) ∧ ρ1 10 = .v (.pointer (some ⟨b10, 0, none⟩)) ∧ putNs terms (varsT terms) f.nodes [] = putNs terms (varsT terms) (f.nodes.drop k) acc ∧ acc.length = k) ∧ σ1 b10 = some (.row (atC n k) 5 1) ∧ σ1 b4 = some (.row [int 0, .v (.slice none 0 0)] 2 1) ∧ σ1 b5 = some (.row [int 0] 1 1) ∧ σ1 b7 = some (.row [int (varsT terms)] 1 1) ∧ σ1 b9 = some (.row [int (varsT terms), a] 2 1) ∧ Grow σ σ1 4 a (acc.flatMap ndC) k ∧ Drop σ1 σ)
          (by (intros; repeat' (first | exact Closed.row (fun h => h) | exact Closed.grow (fun _ h => h) | exact Closed.drop hDs (fun _ _ _ h => h) | exact Closed.map (fun h => h) | exact Closed.const _ | refine Closed.ex fun _ => ?_ | refine Closed.and ?_ ?_))) (by (intros; repeat' (first | exact Closed.row (fun h => h) | exact Closed.grow (fun _ h => h) | exact Closed.drop hDs (fun _ _ _ h => h) | exact Closed.map (fun h => h) | exact Closed.const _ | refine Closed.ex fun _ => ?_ | refine Closed.and ?_ ?_))) (by (intros; repeat' (first | exact Closed.row (fun h => h) | exact Closed.grow (fun _ h => h) | exact Closed.drop hDs (fun _ _ _ h => h) | exact Closed.map (fun h => h) | exact Closed.const _ | refine Closed.ex fun _ => ?_ | refine Closed.and ?_ ?_)))
          ?_ ?_ ?_ ?_ ?_
        · refine ⟨[], _, ⟨rfl, rfl⟩, ?_, ?_, ?_, ?_, .nil _ _ _, ?_⟩
          · simp [upd, n54, n54', n75, n75', n74, n74', n97, n97', n95, n95', n94, n94', int]
          · simp [upd, n54, n54', n75, n75', n74, n74', n97, n97', n95, n95', n94, n94', int]
          · simp [upd, n54, n54', n75, n75', n74, n74', n97, n97', n95, n95', n94, n94', int, hvq]
          · simp [upd, n54, n54', n75, n75', n74, n74', n97, n97', n95, n95', n94, n94', int, hvq]
          · repeat (first | exact Drop.refl _ | assumption | refine Drop.upd ?_ (by assumption))
        · rintro k x E σ' l hE hx ⟨acc, a, ⟨hz, hacc⟩, q4, q5, q7, q9, hG, hD⟩
          obtain ⟨n, hn, rfl⟩ := nodesX_get hx
          have e2 : E 2 = .pp (fmC f) 0 := by rw [hE 2 (by decide)]; simp only [go_sem, xQ, ↓reduceIte, xA, xM, xL, xT, xE, xN, xP, xR, xS]
          have e3 : E 3 = .pp [slT terms] 0 := by rw [hE 3 (by decide)]; simp only [go_sem, xQ, ↓reduceIte, xA, xM, xL, xT, xE, xN, xP, xR, xS]
          have e4 : E 4 = .v (.pointer (some ⟨b4, 0, none⟩)) := by rw [hE 4 (by decide)]; simp only [go_sem, xQ, ↓reduceIte, xA, xM, xL, xT, xE, xN, xP, xR, xS]
          have e5 : E 5 = .v (.pointer (some ⟨b5, 0, none⟩)) := by rw [hE 5 (by decide)]; simp only [go_sem, xQ, ↓reduceIte, xA, xM, xL, xT, xE, xN, xP, xR, xS]
          have e7 : E 7 = .v (.pointer (some ⟨b7, 0, none⟩)) := by rw [hE 7 (by decide)]; simp only [go_sem, xQ, ↓reduceIte, xA, xM, xL, xT, xE, xN, xP, xR, xS]
          have e9 : E 9 = .v (.pointer (some ⟨b9, 0, none⟩)) := by rw [hE 9 (by decide)]; simp only [go_sem, xQ, ↓reduceIte, xA, xM, xL, xT, xE, xN, xP, xR, xS]
          simp only [go_sem, xQ, ↓reduceIte, xA, xM, xL, xT, xE, xN, xP, xR, xS, e2, e3, e4, e5, e7, e9]
          intro b10 hb10
          have m4 : ¬ b4 = b10 := nn hb10 q4
          have m5 : ¬ b5 = b10 := nn hb10 q5
          have m7 : ¬ b7 = b10 := nn hb10 q7
          have m9 : ¬ b9 = b10 := nn hb10 q9
          simp only [go_sem, xQ, ↓reduceIte, xA, xM, xL, xT, xE, xN, xP, xR, xS, e2, e3, e4, e5, e7, e9, m4, m5, m7, m9]
          refine ⟨(Keep.refl _ _).upd (keep_none hb10), n, b10, acc, a, ?_⟩
          simp only [go_sem, xQ, ↓reduceIte, xA, xM, xL, xT, xE, xN, xP, xR, xS, e2, e3, e4, e5, e7, e9, m4, m5, m7, m9, hn, q4, q5, q7, q9]
          exact ⟨⟨hz, hacc⟩, (hG.updF hb10), hD.upd (hD.free hb10)⟩
        · rintro k x ρ1 σ' l hx ⟨n, b10, acc, a, ⟨hn, h2', h3, h4, h5, h7, h9, h10, hz, hacc⟩, q10, q4, q5, q7, q9, hG, hD⟩
          have hcn := hc n (mem_of_get hn)
          have hkn := hok k n hn
          simp only [go_sem, xQ, ↓reduceIte, xA, xM, xL, xT, xE, xN, xP, xR, xS, h2', h3, h4, h5, h7, h9, h10, q10, q4, q5, q7, q9]
          refine callB_use (f156 n 0 hcn) rfl ?_
          simp only [go_sem, xQ, ↓reduceIte, xA, xM, xL, xT, xE, xN, xP, xR, xS]
          intro b11 hb11
          have n4_11 : ¬ b4 = b11 := nn hb11 q4
          have n5_11 : ¬ b5 = b11 := nn hb11 q5
          have n7_11 : ¬ b7 = b11 := nn hb11 q7
          have n9_11 : ¬ b9 = b11 := nn hb11 q9
          have n10_11 : ¬ b10 = b11 := nn hb11 q10
          have n11_4 : ¬ b11 = b4 := fun e => n4_11 e.symm
          have n11_5 : ¬ b11 = b5 := fun e => n5_11 e.symm
          have n11_7 : ¬ b11 = b7 := fun e => n7_11 e.symm
          have n11_9 : ¬ b11 = b9 := fun e => n9_11 e.symm
          have n11_10 : ¬ b11 = b10 := fun e => n10_11 e.symm
          have h11 : True := trivial
          simp only [go_sem, xQ, ↓reduceIte, xA, xM, xL, xT, xE, xN, xP, xR, xS, h2', h3, h4, h5, h7, h9, h10, h11, q10, q4, q5, q7, q9, n11_4, n11_5, n11_7, n11_9, n11_10, n4_11, n5_11, n7_11, n9_11, n10_11]
          have hcases : n.kind = 0 ∨ n.kind = 1 ∨ n.kind = 2 ∨ n.kind = 3 ∨ n.kind = 4 := by have := hkn.lo; have := hkn.hi; omega
          rcases hcases with hk | hk | hk | hk | hk
          · have ht1 := (hkn.term (by omega)).2.1
            simp only [go_sem, xQ, ↓reduceIte, xA, xM, xL, xT, xE, xN, xP, xR, xS, h2', h3, h4, h5, h7, h9, h10, h11, q10, q4, q5, q7, q9, n11_4, n11_5, n11_7, n11_9, n11_10, n4_11, n5_11, n7_11, n9_11, n10_11, hk, hG', sortsT]
            refine callB_use (f157 (varsT terms) n.term.const (by omega)) rfl ?_
            simp only [go_sem, xQ, ↓reduceIte, xA, xM, xL, xT, xE, xN, xP, xR, xS, h2', h3, h4, h5, h7, h9, h10, h11, q10, q4, q5, q7, q9, n11_4, n11_5, n11_7, n11_9, n11_10, n4_11, n5_11, n7_11, n9_11, n10_11]
            refine SemC.loopK mixed n.term.coeffs.length (fun j ρ σ2 ds => (ds = [] ∧ ρ 2 = .pp (fmC f) 0 ∧ ρ 3 = .pp [slT terms] 0 ∧ ρ 4 = .v (.pointer (some ⟨b4, 0, none⟩)) ∧ ρ 5 = .v (.pointer (some ⟨b5, 0, none⟩)) ∧ ρ 7 = .v (.pointer (some ⟨b7, 0, none⟩)) ∧ ρ 9 = .v (.pointer (some ⟨b9, 0, none⟩)) ∧ ρ 10 = .v (.pointer (some ⟨b10, 0, none⟩)) ∧ ρ 11 = .v (.pointer (some ⟨b11, 0, none⟩)) ∧ ρ 69 = slI n.term.coeffs ∧ ρ 70 = int n.term.coeffs.length ∧ ρ 71 = int j) ∧ ∃ t, t.coeffs.length = varsT terms ∧ putT terms n.term.coeffs 0 ⟨List.replicate (varsT terms) 0, n.term.const⟩ = putT terms (n.term.coeffs.drop j) j t ∧ σ2 = upd σ' b11 (some (.row [int n.kind, slI t.coeffs, int t.const, slI (shiftN 0 n).kids] 4 1))) (by kernel_rfl) ⟨by simp only [go_sem, xQ, ↓reduceIte, xA, xM, xL, xT, xE, xN, xP, xR, xS, h2', h3, h4, h5, h7, h9, h10, h11, q10, q4, q5, q7, q9, n11_4, n11_5, n11_7, n11_9, n11_10, n4_11, n5_11, n7_11, n9_11, n10_11], ⟨List.replicate (varsT terms) 0, n.term.const⟩, List.length_replicate, rfl, by simp [upd_upd, putL, hk, slI, int, shiftN]⟩ ?_
            rintro j ρ σ2 ds hj ⟨⟨rfl, h2', h3, h4, h5, h7, h9, h10, h11, h69, h70, h71⟩, t, htl', hz', rfl⟩
            rcases get_or_end n.term.coeffs j hj with ⟨x, hx, hlt, hd⟩ | hjj
            · obtain ⟨y, hy⟩ : ∃ y, terms[j]? = some y := ⟨terms[j]'(by have := lt_of_getElem? hx; omega), List.getElem?_eq_getElem _⟩
              have hyl := hvt y (mem_of_get hy)
              rw [hd, putT, hy] at hz'
              simp only [go_sem, xQ, ↓reduceIte, xA, xM, xL, xT, xE, xN, xP, xR, xS, h2', h3, h4, h5, h7, h9, h10, h11, q10, q4, q5, q7, q9, n11_4, n11_5, n11_7, n11_9, n11_10, n4_11, n5_11, n7_11, n9_11, n10_11, h69, h70, h71, hlt, hx, ↓tm_part hy, (lt_of_getElem? hy)]
              refine callB_use (f158 t y x (by omega) (by omega)) rfl ?_
              simp only [go_sem, xQ, ↓reduceIte, xA, xM, xL, xT, xE, xN, xP, xR, xS, h2', h3, h4, h5, h7, h9, h10, h11, q10, q4, q5, q7, q9, n11_4, n11_5, n11_7, n11_9, n11_10, n4_11, n5_11, n7_11, n9_11, n10_11, h69, h70, h71]
              simp only [go_sem, xQ, ↓reduceIte, xA, xM, xL, xT, xE, xN, xP, xR, xS, upd_upd, putL]
              refine callB_use (f159 (plusT t y x) (by rw [plusT]; simp only [plusC_len]; omega)) rfl ?_
              simp only [go_sem, xQ, ↓reduceIte, xA, xM, xL, xT, xE, xN, xP, xR, xS, h2', h3, h4, h5, h7, h9, h10, h11, q10, q4, q5, q7, q9, n11_4, n11_5, n11_7, n11_9, n11_10, n4_11, n5_11, n7_11, n9_11, n10_11, h69, h70, h71, upd_upd, putL]
              have hpl : (plusT t y x).coeffs.length = varsT terms := by rw [plusT]; simp only [plusC_len]; omega
              by_cases hL : largeE (plusT t y x) = 0
              · simp only [hL, if_true] at hz'
                simp only [go_sem, xQ, ↓reduceIte, xA, xM, xL, xT, xE, xN, xP, xR, xS, h2', h3, h4, h5, h7, h9, h10, h11, q10, q4, q5, q7, q9, n11_4, n11_5, n11_7, n11_9, n11_10, n4_11, n5_11, n7_11, n9_11, n10_11, hL, h69, h70, h71]
                exact ⟨lt_of_getElem? hx, by rw [wrap_succ _ (by have := lt_of_getElem? hx; omega)], plusT t y x, hpl, hz', rfl⟩
              · have hL4 : largeE (plusT t y x) = 4 := by rcases large_04 (plusT t y x) with h | h; exact absurd h hL; exact h
                simp only [hL, if_false] at hz'
                simp only [go_sem, xQ, ↓reduceIte, xA, xM, xL, xT, xE, xN, xP, xR, xS, h2', h3, h4, h5, h7, h9, h10, h11, q10, q4, q5, q7, q9, n11_4, n11_5, n11_7, n11_9, n11_10, n4_11, n5_11, n7_11, n9_11, n10_11, hL4, h69, h70, h71, e40, n54, n54']
                rw [drop_of_get hn, putNs, putNd, if_pos (by omega), hz'] at hz
                exact ⟨(((Keep.refl _ _).upd (keep_none hb11)).upd (keep_row (cs := [int 0, .v (.slice none 0 0)]) (s := 2) (c := 1) (by simp [upd, n4_11, n11_4, q4]) (fun h => h))).upd (keep_row (cs := [int 0]) (s := 1) (c := 1) (by simp [upd, n5_11, n11_5, n54, n54', q5]) (fun h => h)), hz, ((hD.upd (hD.free hb11)).upd hb4).upd hb5⟩
            · subst hjj
              rw [List.drop_length, putT] at hz'
              simp only [go_sem, xQ, ↓reduceIte, xA, xM, xL, xT, xE, xN, xP, xR, xS, h2', h3, h4, h5, h7, h9, h10, h11, q10, q4, q5, q7, q9, n11_4, n11_5, n11_7, n11_9, n11_10, n4_11, n5_11, n7_11, n9_11, n10_11, h69, h70, h71, Nat.lt_irrefl]
              simp only [go_sem, xQ, ↓reduceIte, xA, xM, xL, xT, xE, xN, xP, xR, xS, h2', h3, h4, h5, h7, h9, h10, h11, q10, q4, q5, q7, q9, n11_4, n11_5, n11_7, n11_9, n11_10, n4_11, n5_11, n7_11, n9_11, n10_11]
              refine appB_sl (appT_sl el64 tk216 by216 el64 (by decide) rfl (by decide)) ((hD.upd (hD.free hb11))) (hG.upd hb11) rfl rfl (by have := lt_of_getElem? hn; omega) (fun a' σ3 hD3 hO3 hG3 => ?_)
              have w4 : σ3 b4 = some (.row [int 0, .v (.slice none 0 0)] 2 1) := by rw [hO3 b4 (hG.neS q4 (by decide)) (by simp [upd, n4_11, n11_4, q4])]; simp [upd, n4_11, n11_4, q4]
              have w5 : σ3 b5 = some (.row [int 0] 1 1) := by rw [hO3 b5 (hG.neS q5 (by decide)) (by simp [upd, n5_11, n11_5, q5])]; simp [upd, n5_11, n11_5, q5]
              have w7 : σ3 b7 = some (.row [int (varsT terms)] 1 1) := by rw [hO3 b7 (hG.neS q7 (by decide)) (by simp [upd, n7_11, n11_7, q7])]; simp [upd, n7_11, n11_7, q7]
              have w9 : σ3 b9 = some (.row [int (varsT terms), a] 2 1) := by rw [hO3 b9 (hG.neS q9 (by decide)) (by simp [upd, n9_11, n11_9, q9])]; simp [upd, n9_11, n11_9, q9]
              have hc2 := hG3.cellsX
              have ho2 := hG3.oneX
              simp only [go_sem, xQ, ↓reduceIte, xA, xM, xL, xT, xE, xN, xP, xR, xS, h2', h3, h4, h5, h7, h9, h10, h11, q10, q4, q5, q7, q9, n11_4, n11_5, n11_7, n11_9, n11_10, n4_11, n5_11, n7_11, n9_11, n10_11, w4, w5, w7, w9, hc2, ho2, n94, n94', n95, n95', n97, n97']
              rw [drop_of_get hn, putNs, putNd, if_pos (by omega), hz', Option.map_some] at hz
              refine ⟨((Keep.refl _ _).upd (keep_none hb11)).trans ((keep_others hO3 (hG.upd hb11)).trans ((Keep.refl _ _).upd (keep_row w9 (fun h => h)))), acc ++ [⟨n.kind, t, (shiftN 0 n).kids⟩], a', ⟨hz, by simp [hacc]⟩, by simp, ?_, ?_⟩
              · have := hG3.updW (hG3.neS w9 (by decide)) (some (.row [int (varsT terms), a'] 2 1))
                simpa [ndC, slI, int, ints] using this
              · exact hD3.upd hb9
          · have ht1 := (hkn.term (by omega)).2.1
            simp only [go_sem, xQ, ↓reduceIte, xA, xM, xL, xT, xE, xN, xP, xR, xS, h2', h3, h4, h5, h7, h9, h10, h11, q10, q4, q5, q7, q9, n11_4, n11_5, n11_7, n11_9, n11_10, n4_11, n5_11, n7_11, n9_11, n10_11, hk, hG', sortsT]
            refine callB_use (f157 (varsT terms) n.term.const (by omega)) rfl ?_
            simp only [go_sem, xQ, ↓reduceIte, xA, xM, xL, xT, xE, xN, xP, xR, xS, h2', h3, h4, h5, h7, h9, h10, h11, q10, q4, q5, q7, q9, n11_4, n11_5, n11_7, n11_9, n11_10, n4_11, n5_11, n7_11, n9_11, n10_11]
            refine SemC.loopK mixed n.term.coeffs.length (fun j ρ σ2 ds => (ds = [] ∧ ρ 2 = .pp (fmC f) 0 ∧ ρ 3 = .pp [slT terms] 0 ∧ ρ 4 = .v (.pointer (some ⟨b4, 0, none⟩)) ∧ ρ 5 = .v (.pointer (some ⟨b5, 0, none⟩)) ∧ ρ 7 = .v (.pointer (some ⟨b7, 0, none⟩)) ∧ ρ 9 = .v (.pointer (some ⟨b9, 0, none⟩)) ∧ ρ 10 = .v (.pointer (some ⟨b10, 0, none⟩)) ∧ ρ 11 = .v (.pointer (some ⟨b11, 0, none⟩)) ∧ ρ 69 = slI n.term.coeffs ∧ ρ 70 = int n.term.coeffs.length ∧ ρ 71 = int j) ∧ ∃ t, t.coeffs.length = varsT terms ∧ putT terms n.term.coeffs 0 ⟨List.replicate (varsT terms) 0, n.term.const⟩ = putT terms (n.term.coeffs.drop j) j t ∧ σ2 = upd σ' b11 (some (.row [int n.kind, slI t.coeffs, int t.const, slI (shiftN 0 n).kids] 4 1))) (by kernel_rfl) ⟨by simp only [go_sem, xQ, ↓reduceIte, xA, xM, xL, xT, xE, xN, xP, xR, xS, h2', h3, h4, h5, h7, h9, h10, h11, q10, q4, q5, q7, q9, n11_4, n11_5, n11_7, n11_9, n11_10, n4_11, n5_11, n7_11, n9_11, n10_11], ⟨List.replicate (varsT terms) 0, n.term.const⟩, List.length_replicate, rfl, by simp [upd_upd, putL, hk, slI, int, shiftN]⟩ ?_
            rintro j ρ σ2 ds hj ⟨⟨rfl, h2', h3, h4, h5, h7, h9, h10, h11, h69, h70, h71⟩, t, htl', hz', rfl⟩
            rcases get_or_end n.term.coeffs j hj with ⟨x, hx, hlt, hd⟩ | hjj
            · obtain ⟨y, hy⟩ : ∃ y, terms[j]? = some y := ⟨terms[j]'(by have := lt_of_getElem? hx; omega), List.getElem?_eq_getElem _⟩
              have hyl := hvt y (mem_of_get hy)
              rw [hd, putT, hy] at hz'
              simp only [go_sem, xQ, ↓reduceIte, xA, xM, xL, xT, xE, xN, xP, xR, xS, h2', h3, h4, h5, h7, h9, h10, h11, q10, q4, q5, q7, q9, n11_4, n11_5, n11_7, n11_9, n11_10, n4_11, n5_11, n7_11, n9_11, n10_11, h69, h70, h71, hlt, hx, ↓tm_part hy, (lt_of_getElem? hy)]
              refine callB_use (f158 t y x (by omega) (by omega)) rfl ?_
              simp only [go_sem, xQ, ↓reduceIte, xA, xM, xL, xT, xE, xN, xP, xR, xS, h2', h3, h4, h5, h7, h9, h10, h11, q10, q4, q5, q7, q9, n11_4, n11_5, n11_7, n11_9, n11_10, n4_11, n5_11, n7_11, n9_11, n10_11, h69, h70, h71]
              simp only [go_sem, xQ, ↓reduceIte, xA, xM, xL, xT, xE, xN, xP, xR, xS, upd_upd, putL]
              refine callB_use (f159 (plusT t y x) (by rw [plusT]; simp only [plusC_len]; omega)) rfl ?_
              simp only [go_sem, xQ, ↓reduceIte, xA, xM, xL, xT, xE, xN, xP, xR, xS, h2', h3, h4, h5, h7, h9, h10, h11, q10, q4, q5, q7, q9, n11_4, n11_5, n11_7, n11_9, n11_10, n4_11, n5_11, n7_11, n9_11, n10_11, h69, h70, h71, upd_upd, putL]
              have hpl : (plusT t y x).coeffs.length = varsT terms := by rw [plusT]; simp only [plusC_len]; omega
              by_cases hL : largeE (plusT t y x) = 0
              · simp only [hL, if_true] at hz'
                simp only [go_sem, xQ, ↓reduceIte, xA, xM, xL, xT, xE, xN, xP, xR, xS, h2', h3, h4, h5, h7, h9, h10, h11, q10, q4, q5, q7, q9, n11_4, n11_5, n11_7, n11_9, n11_10, n4_11, n5_11, n7_11, n9_11, n10_11, hL, h69, h70, h71]
                exact ⟨lt_of_getElem? hx, by rw [wrap_succ _ (by have := lt_of_getElem? hx; omega)], plusT t y x, hpl, hz', rfl⟩
              · have hL4 : largeE (plusT t y x) = 4 := by rcases large_04 (plusT t y x) with h | h; exact absurd h hL; exact h
                simp only [hL, if_false] at hz'
                simp only [go_sem, xQ, ↓reduceIte, xA, xM, xL, xT, xE, xN, xP, xR, xS, h2', h3, h4, h5, h7, h9, h10, h11, q10, q4, q5, q7, q9, n11_4, n11_5, n11_7, n11_9, n11_10, n4_11, n5_11, n7_11, n9_11, n10_11, hL4, h69, h70, h71, e40, n54, n54']
                rw [drop_of_get hn, putNs, putNd, if_pos (by omega), hz'] at hz
                exact ⟨(((Keep.refl _ _).upd (keep_none hb11)).upd (keep_row (cs := [int 0, .v (.slice none 0 0)]) (s := 2) (c := 1) (by simp [upd, n4_11, n11_4, q4]) (fun h => h))).upd (keep_row (cs := [int 0]) (s := 1) (c := 1) (by simp [upd, n5_11, n11_5, n54, n54', q5]) (fun h => h)), hz, ((hD.upd (hD.free hb11)).upd hb4).upd hb5⟩
            · subst hjj
              rw [List.drop_length, putT] at hz'
              simp only [go_sem, xQ, ↓reduceIte, xA, xM, xL, xT, xE, xN, xP, xR, xS, h2', h3, h4, h5, h7, h9, h10, h11, q10, q4, q5, q7, q9, n11_4, n11_5, n11_7, n11_9, n11_10, n4_11, n5_11, n7_11, n9_11, n10_11, h69, h70, h71, Nat.lt_irrefl]
              simp only [go_sem, xQ, ↓reduceIte, xA, xM, xL, xT, xE, xN, xP, xR, xS, h2', h3, h4, h5, h7, h9, h10, h11, q10, q4, q5, q7, q9, n11_4, n11_5, n11_7, n11_9, n11_10, n4_11, n5_11, n7_11, n9_11, n10_11]
              refine appB_sl (appT_sl el64 tk216 by216 el64 (by decide) rfl (by decide)) ((hD.upd (hD.free hb11))) (hG.upd hb11) rfl rfl (by have := lt_of_getElem? hn; omega) (fun a' σ3 hD3 hO3 hG3 => ?_)
              have w4 : σ3 b4 = some (.row [int 0, .v (.slice none 0 0)] 2 1) := by rw [hO3 b4 (hG.neS q4 (by decide)) (by simp [upd, n4_11, n11_4, q4])]; simp [upd, n4_11, n11_4, q4]
              have w5 : σ3 b5 = some (.row [int 0] 1 1) := by rw [hO3 b5 (hG.neS q5 (by decide)) (by simp [upd, n5_11, n11_5, q5])]; simp [upd, n5_11, n11_5, q5]
              have w7 : σ3 b7 = some (.row [int (varsT terms)] 1 1) := by rw [hO3 b7 (hG.neS q7 (by decide)) (by simp [upd, n7_11, n11_7, q7])]; simp [upd, n7_11, n11_7, q7]
              have w9 : σ3 b9 = some (.row [int (varsT terms), a] 2 1) := by rw [hO3 b9 (hG.neS q9 (by decide)) (by simp [upd, n9_11, n11_9, q9])]; simp [upd, n9_11, n11_9, q9]
              have hc2 := hG3.cellsX
              have ho2 := hG3.oneX
              simp only [go_sem, xQ, ↓reduceIte, xA, xM, xL, xT, xE, xN, xP, xR, xS, h2', h3, h4, h5, h7, h9, h10, h11, q10, q4, q5, q7, q9, n11_4, n11_5, n11_7, n11_9, n11_10, n4_11, n5_11, n7_11, n9_11, n10_11, w4, w5, w7, w9, hc2, ho2, n94, n94', n95, n95', n97, n97']
              rw [drop_of_get hn, putNs, putNd, if_pos (by omega), hz', Option.map_some] at hz
              refine ⟨((Keep.refl _ _).upd (keep_none hb11)).trans ((keep_others hO3 (hG.upd hb11)).trans ((Keep.refl _ _).upd (keep_row w9 (fun h => h)))), acc ++ [⟨n.kind, t, (shiftN 0 n).kids⟩], a', ⟨hz, by simp [hacc]⟩, by simp, ?_, ?_⟩
              · have := hG3.updW (hG3.neS w9 (by decide)) (some (.row [int (varsT terms), a'] 2 1))
                simpa [ndC, slI, int, ints] using this
              · exact hD3.upd hb9
          · simp only [go_sem, xQ, ↓reduceIte, xA, xM, xL, xT, xE, xN, xP, xR, xS, h2', h3, h4, h5, h7, h9, h10, h11, q10, q4, q5, q7, q9, n11_4, n11_5, n11_7, n11_9, n11_10, n4_11, n5_11, n7_11, n9_11, n10_11, hk, hG', sortsT]
            simp only [go_sem, xQ, ↓reduceIte, xA, xM, xL, xT, xE, xN, xP, xR, xS, h2', h3, h4, h5, h7, h9, h10, h11, q10, q4, q5, q7, q9, n11_4, n11_5, n11_7, n11_9, n11_10, n4_11, n5_11, n7_11, n9_11, n10_11]
            refine appB_sl (appT_sl el64 tk216 by216 el64 (by decide) rfl (by decide)) ((hD.upd (hD.free hb11))) (hG.upd hb11) rfl rfl (by have := lt_of_getElem? hn; omega) (fun a' σ3 hD3 hO3 hG3 => ?_)
            have w4 : σ3 b4 = some (.row [int 0, .v (.slice none 0 0)] 2 1) := by rw [hO3 b4 (hG.neS q4 (by decide)) (by simp [upd, n4_11, n11_4, q4])]; simp [upd, n4_11, n11_4, q4]
            have w5 : σ3 b5 = some (.row [int 0] 1 1) := by rw [hO3 b5 (hG.neS q5 (by decide)) (by simp [upd, n5_11, n11_5, q5])]; simp [upd, n5_11, n11_5, q5]
            have w7 : σ3 b7 = some (.row [int (varsT terms)] 1 1) := by rw [hO3 b7 (hG.neS q7 (by decide)) (by simp [upd, n7_11, n11_7, q7])]; simp [upd, n7_11, n11_7, q7]
            have w9 : σ3 b9 = some (.row [int (varsT terms), a] 2 1) := by rw [hO3 b9 (hG.neS q9 (by decide)) (by simp [upd, n9_11, n11_9, q9])]; simp [upd, n9_11, n11_9, q9]
            have hc2 := hG3.cellsX
            have ho2 := hG3.oneX
            simp only [go_sem, xQ, ↓reduceIte, xA, xM, xL, xT, xE, xN, xP, xR, xS, h2', h3, h4, h5, h7, h9, h10, h11, q10, q4, q5, q7, q9, n11_4, n11_5, n11_7, n11_9, n11_10, n4_11, n5_11, n7_11, n9_11, n10_11, w4, w5, w7, w9, hc2, ho2, n94, n94', n95, n95', n97, n97']
            rw [drop_of_get hn, putNs, putNd, if_neg (by omega)] at hz
            refine ⟨((Keep.refl _ _).upd (keep_none hb11)).trans ((keep_others hO3 (hG.upd hb11)).trans ((Keep.refl _ _).upd (keep_row w9 (fun h => h)))), acc ++ [shiftN 0 n], a', ⟨hz, by simp [hacc]⟩, by simp, ?_, ?_⟩
            · have := hG3.updW (hG3.neS w9 (by decide)) (some (.row [int (varsT terms), a'] 2 1))
              simpa [ndC, slI, int, ints] using this
            · exact hD3.upd hb9
          · simp only [go_sem, xQ, ↓reduceIte, xA, xM, xL, xT, xE, xN, xP, xR, xS, h2', h3, h4, h5, h7, h9, h10, h11, q10, q4, q5, q7, q9, n11_4, n11_5, n11_7, n11_9, n11_10, n4_11, n5_11, n7_11, n9_11, n10_11, hk, hG', sortsT]
            simp only [go_sem, xQ, ↓reduceIte, xA, xM, xL, xT, xE, xN, xP, xR, xS, h2', h3, h4, h5, h7, h9, h10, h11, q10, q4, q5, q7, q9, n11_4, n11_5, n11_7, n11_9, n11_10, n4_11, n5_11, n7_11, n9_11, n10_11]
            refine appB_sl (appT_sl el64 tk216 by216 el64 (by decide) rfl (by decide)) ((hD.upd (hD.free hb11))) (hG.upd hb11) rfl rfl (by have := lt_of_getElem? hn; omega) (fun a' σ3 hD3 hO3 hG3 => ?_)
            have w4 : σ3 b4 = some (.row [int 0, .v (.slice none 0 0)] 2 1) := by rw [hO3 b4 (hG.neS q4 (by decide)) (by simp [upd, n4_11, n11_4, q4])]; simp [upd, n4_11, n11_4, q4]
            have w5 : σ3 b5 = some (.row [int 0] 1 1) := by rw [hO3 b5 (hG.neS q5 (by decide)) (by simp [upd, n5_11, n11_5, q5])]; simp [upd, n5_11, n11_5, q5]
            have w7 : σ3 b7 = some (.row [int (varsT terms)] 1 1) := by rw [hO3 b7 (hG.neS q7 (by decide)) (by simp [upd, n7_11, n11_7, q7])]; simp [upd, n7_11, n11_7, q7]
            have w9 : σ3 b9 = some (.row [int (varsT terms), a] 2 1) := by rw [hO3 b9 (hG.neS q9 (by decide)) (by simp [upd, n9_11, n11_9, q9])]; simp [upd, n9_11, n11_9, q9]
            have hc2 := hG3.cellsX
            have ho2 := hG3.oneX
            simp only [go_sem, xQ, ↓reduceIte, xA, xM, xL, xT, xE, xN, xP, xR, xS, h2', h3, h4, h5, h7, h9, h10, h11, q10, q4, q5, q7, q9, n11_4, n11_5, n11_7, n11_9, n11_10, n4_11, n5_11, n7_11, n9_11, n10_11, w4, w5, w7, w9, hc2, ho2, n94, n94', n95, n95', n97, n97']
            rw [drop_of_get hn, putNs, putNd, if_neg (by omega)] at hz
            refine ⟨((Keep.refl _ _).upd (keep_none hb11)).trans ((keep_others hO3 (hG.upd hb11)).trans ((Keep.refl _ _).upd (keep_row w9 (fun h => h)))), acc ++ [shiftN 0 n], a', ⟨hz, by simp [hacc]⟩, by simp, ?_, ?_⟩
            · have := hG3.updW (hG3.neS w9 (by decide)) (some (.row [int (varsT terms), a'] 2 1))
              simpa [ndC, slI, int, ints] using this
            · exact hD3.upd hb9
          · simp only [go_sem, xQ, ↓reduceIte, xA, xM, xL, xT, xE, xN, xP, xR, xS, h2', h3, h4, h5, h7, h9, h10, h11, q10, q4, q5, q7, q9, n11_4, n11_5, n11_7, n11_9, n11_10, n4_11, n5_11, n7_11, n9_11, n10_11, hk, hG', sortsT]
            simp only [go_sem, xQ, ↓reduceIte, xA, xM, xL, xT, xE, xN, xP, xR, xS, h2', h3, h4, h5, h7, h9, h10, h11, q10, q4, q5, q7, q9, n11_4, n11_5, n11_7, n11_9, n11_10, n4_11, n5_11, n7_11, n9_11, n10_11]
            refine appB_sl (appT_sl el64 tk216 by216 el64 (by decide) rfl (by decide)) ((hD.upd (hD.free hb11))) (hG.upd hb11) rfl rfl (by have := lt_of_getElem? hn; omega) (fun a' σ3 hD3 hO3 hG3 => ?_)
            have w4 : σ3 b4 = some (.row [int 0, .v (.slice none 0 0)] 2 1) := by rw [hO3 b4 (hG.neS q4 (by decide)) (by simp [upd, n4_11, n11_4, q4])]; simp [upd, n4_11, n11_4, q4]
            have w5 : σ3 b5 = some (.row [int 0] 1 1) := by rw [hO3 b5 (hG.neS q5 (by decide)) (by simp [upd, n5_11, n11_5, q5])]; simp [upd, n5_11, n11_5, q5]
            have w7 : σ3 b7 = some (.row [int (varsT terms)] 1 1) := by rw [hO3 b7 (hG.neS q7 (by decide)) (by simp [upd, n7_11, n11_7, q7])]; simp [upd, n7_11, n11_7, q7]
            have w9 : σ3 b9 = some (.row [int (varsT terms), a] 2 1) := by rw [hO3 b9 (hG.neS q9 (by decide)) (by simp [upd, n9_11, n11_9, q9])]; simp [upd, n9_11, n11_9, q9]
            have hc2 := hG3.cellsX
            have ho2 := hG3.oneX
            simp only [go_sem, xQ, ↓reduceIte, xA, xM, xL, xT, xE, xN, xP, xR, xS, h2', h3, h4, h5, h7, h9, h10, h11, q10, q4, q5, q7, q9, n11_4, n11_5, n11_7, n11_9, n11_10, n4_11, n5_11, n7_11, n9_11, n10_11, w4, w5, w7, w9, hc2, ho2, n94, n94', n95, n95', n97, n97']
            rw [drop_of_get hn, putNs, putNd, if_neg (by omega)] at hz
            refine ⟨((Keep.refl _ _).upd (keep_none hb11)).trans ((keep_others hO3 (hG.upd hb11)).trans ((Keep.refl _ _).upd (keep_row w9 (fun h => h)))), acc ++ [shiftN 0 n], a', ⟨hz, by simp [hacc]⟩, by simp, ?_, ?_⟩
            · have := hG3.updW (hG3.neS w9 (by decide)) (some (.row [int (varsT terms), a'] 2 1))
              simpa [ndC, slI, int, ints] using this
            · exact hD3.upd hb9
        · rintro σ' r hr' ⟨acc, a, ⟨hz, hacc⟩, q4, q5, q7, q9, hG, hD⟩ hd
          have u4 : ¬ b4 = r := dn hd q4
          have u4' : ¬ r = b4 := fun e => u4 e.symm
          have u5 : ¬ b5 = r := dn hd q5
          have u5' : ¬ r = b5 := fun e => u5 e.symm
          have u9 : ¬ b9 = r := dn hd q9
          have u9' : ¬ r = b9 := fun e => u9 e.symm
          have hc2 := hG.cellsX
          have ho2 := hG.oneX
          have hbr : σ r = none := (un (un (un (un hr').2).2).2).2
          have hlen : (nodesX f.nodes).length = f.nodes.length := by rw [nodesX, List.length_mapIdx]
          rw [hlen, List.drop_length, putNs] at hz
          rw [hr0, hz]
          simp only [go_sem, xQ, ↓reduceIte, xA, xM, xL, xT, xE, xN, xP, xR, xS, q4, q5, q9, hd, u4, u4', u5, u5', u9, u9', n54, n54', n94, n94', n95, n95', hc2, ho2]
          have hnr := hG.neO hd
          have hn4 := hG.neS q4 (by decide)
          have hn5 := hG.neS q5 (by decide)
          have hDf : ∀ x y, Drop (upd (upd σ' b4 x) b5 y) σ := fun x y => (hD.upd hb4).upd hb5
          refine ⟨.tup (.cons (.agg (.cons (.refl _) (.cons ?_ .nil))) (.cons (.refl _) .nil)), ?_⟩
          · rw [ers_upd]
            rw [hacc]
            exact ((((hG.updW hn4 _).updW hn5 _).updW hnr none).retP ((hDf _ _).upd hbr)).1
          · exact (hDf _ _).ersX hbr
        · rintro e σ' r hr' ⟨⟨rfl, hz⟩, q4, q5, hD⟩ hd
          have u4 : ¬ b4 = r := dn hd q4
          have u4' : ¬ r = b4 := fun e => u4 e.symm
          have u5 : ¬ b5 = r := dn hd q5
          have u5' : ¬ r = b5 := fun e => u5 e.symm
          rw [hr0, hz]
          simp only [go_sem, xQ, ↓reduceIte, xA, xM, xL, xT, xE, xN, xP, xR, xS, q4, q5, hd, u4, u4', u5, u5', n54, n54', fm0]
          exact ⟨.tup (.cons (.agg (.cons (.refl _) (.cons .nil .nil))) (.cons (.refl _) .nil)), hD.ersX (un (un (un (un hr').2).2).2).2⟩
      · have hr : putR f terms = (fm0, putE2 terms) := by rw [putR, if_pos h, if_neg h2]
        have h2' := h2
        unfold putE2 at h2'
        rw [hr]
        simp only [go_sem, xQ, ↓reduceIte, xA, xM, xL, xT, xE, xN, xP, xR, xS, h2', fm0, n54, n54', n75, n75', n74, n74', putE2]
        exact ⟨.tup (.cons (.agg (.cons (.refl _) (.cons .nil .nil))) (.cons (.refl _) .nil)), by repeat (first | exact Drop.refl _ | assumption | refine Drop.upd ?_ (by assumption))⟩
  · have hr : putR f terms = (fm0, putE1 f terms) := by rw [putR, if_neg h]
    have h' := h
    unfold putE1 at h'
    rw [hr]
    simp only [go_sem, xQ, ↓reduceIte, xA, xM, xL, xT, xE, xN, xP, xR, xS, h', fm0, n54, n54', putE1]
    exact ⟨.tup (.cons (.agg (.cons (.refl _) (.cons .nil .nil))) (.cons (.refl _) .nil)), by repeat (first | exact Drop.refl _ | assumption | refine Drop.upd ?_ (by assumption))⟩
end Go.AL
