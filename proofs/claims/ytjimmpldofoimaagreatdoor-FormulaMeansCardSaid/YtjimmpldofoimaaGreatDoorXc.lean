/- Holds of the program. -/
import Derived.Test.YtjimmpldofoimaaGreatDoorAm
import Derived.Test.YtjimmpldofoimaaGreatDoorAn
import Derived.Test.YtjimmpldofoimaaGreatDoorXb
open Nat renaming reduceEqDiff → xQ, reduceAdd → xA, reduceMul → xM, reduceLeDiff → xL
open Int renaming reduceLT → xT, reduceLE → xE, reduceToNat → xN
open Go.AL renaming retPost_one → xP, retPost_oneN → xR, ers_at' → xS
set_option linter.unusedVariables false
set_option linter.unusedSimpArgs false
namespace Go.AL
open Go.Proofs
variable {Γ : Glob}
attribute [local irreducible] codeW opsW dopsW
def bv (b : Bool) : AV := .v (.bool b)
def slB (l : List Bool) : AV := .sl (l.map bv) l.length
theorem bv_get {l : List Bool} {k : Nat} {b : Bool} (h : l[k]? = some b) : (l.map bv)[k]? = some (.v (.bool b)) := by rw [List.getElem?_map, h]; rfl
attribute [go_sem] slB
theorem keep_others {σ0 σ σ2 : Sig} {s n : Nat} {a : AV} {cs : List AV} (hO : Others a σ σ2) (hG : Grow σ0 σ s a cs n) : Keep (KD noD) σ σ2 := fun b x hb hx => by
  rw [hO b ?_ (by rw [hb]; simp)]
  · exact hb
  · intro s1 o m e
    rcases hG with ⟨h, _⟩ | ⟨b', c, h0, h1, h2, h3⟩
    · rcases h with rfl | rfl <;> cases e
    · rw [e] at h0
      cases h0
      rw [h2] at hb
      cases hb
      rcases hx with h | h <;> exact h
theorem f139 (l : List Int) (hl : Fits l.length) (fv : AV) (g : Int → Bool) (σ : Sig) (hg : ∀ x ∈ l, ∀ σ' : Sig, (∀ b, σ b ≠ none → σ' b = σ b) → ∀ K : AV → Sig → Prop, K (.v (.bool (g x))) σ' → callB Tryz.prog Γ fv [int x] σ' K) :
    ACalls Tryz.prog Γ 139 [slI l, fv] σ fun r σ' => r = slB (l.map g) ∧ σ' = σ := by
  refine pcallsAt (ok139 Γ) ?_
  simp only [go_sem, xQ, ↓reduceIte, xA, xM, xL, xT, xE, xN, xP, xR, xS, Tryz.f139]
  refine SemC.loopK mixed l.length (fun k ρ σ' ds => Drop σ' σ ∧ ds = [] ∧ ρ 1 = fv ∧ ρ 8 = slI l ∧ ρ 9 = int l.length ∧ ρ 10 = int k ∧ Grow σ σ' 1 (ρ 5) (((l.take k).map g).map bv) k ∧ ∀ b, σ b ≠ none → σ' b = σ b) (by kernel_rfl) ⟨.refl _, rfl, rfl, rfl, rfl, rfl, .nil _ _ _, fun _ _ => rfl⟩ ?_
  rintro k ρ σ' ds hk ⟨hD, rfl, h1, h8, h9, h10, hG, hE⟩
  rcases get_or_end l k hk with ⟨x, hx, hlt, hd⟩ | rfl
  · simp only [go_sem, xQ, ↓reduceIte, xA, xM, xL, xT, xE, xN, xP, xR, xS, h1, h8, h9, h10, hlt, hx]
    refine hg x (mem_of_get hx) _ hE _ ?_
    simp only [go_sem, xQ, ↓reduceIte, xA, xM, xL, xT, xE, xN, xP, xR, xS, h1, h8, h9, h10]
    refine appB_sl (appT_sl el211 tk4 by4 el211 (by decide) rfl (by decide)) hD hG rfl rfl (by omega) (fun a' σ2 hD2 hO hG2 => ?_)
    simp only [go_sem, xQ, ↓reduceIte, xA, xM, xL, xT, xE, xN, xP, xR, xS, h1, h8, h9, h10]
    refine ⟨hD2, by rw [wrap_succ _ (by omega)], ?_, fun b hb => ?_⟩
    · rw [take_succ hx]
      simpa [bv] using hG2
    · rw [hO b ?_ (by rw [hE b hb]; exact hb)]
      · exact hE b hb
      · intro s1 o m e
        rcases hG with ⟨h, _⟩ | ⟨b', c, h0, h1, h2, h3⟩
        · rcases h with h | h <;> rw [h] at e <;> cases e
        · rw [h0] at e
          cases e
          exact hb h1
  · simp only [go_sem, xQ, ↓reduceIte, xA, xM, xL, xT, xE, xN, xP, xR, xS, h8, h9, h10, Nat.lt_irrefl]
    have := hG.retP hD
    rw [List.take_length] at this
    simpa [slB] using this
def idxX {α : Type} (g : α → Bool) : Nat → List α → Int
  | _, [] => -1
  | k, x :: l => if g x then (k : Int) else idxX g (k + 1) l
theorem idxX_any {α : Type} (g : α → Bool) (k : Nat) (l : List α) : decide (0 ≤ idxX g k l) = l.any g := by
  induction l generalizing k with
  | nil => simp [idxX]
  | cons x l ih =>
    rw [List.any_cons, idxX]
    cases h : g x with
    | true => simp
    | false => simpa using ih (k + 1)
theorem f321 (l : List Bool) (hl : Fits l.length) (v : Bool) : PCalls Tryz.prog Γ 321 [slB l, .v (.bool v)] (int (idxX (fun b => v == b) 0 l)) := by
  refine pcalls (ok321 Γ) fun σ => ?_
  simp only [go_sem, xQ, ↓reduceIte, xA, xM, xL, xT, xE, xN, xP, xR, xS, Tryz.f321]
  refine SemC.loopK mixed l.length (fun k ρ σ' ds => σ' = σ ∧ ds = [] ∧ ρ 0 = slB l ∧ ρ 1 = .v (.bool v) ∧ ρ 7 = int l.length ∧ ρ 8 = int k ∧ idxX (fun b => v == b) 0 l = idxX (fun b => v == b) k (l.drop k)) (by kernel_rfl) ⟨rfl, rfl, rfl, rfl, rfl, rfl, rfl⟩ ?_
  rintro k ρ σ' ds hk ⟨rfl, rfl, h0, h1, h7, h8, hz⟩
  rcases get_or_end l k hk with ⟨x, hx, hlt, hd⟩ | hk
  · rw [hd, idxX] at hz
    cases hb : (v == x) with
    | true =>
      rw [hb] at hz
      simp only [go_sem, xQ, ↓reduceIte, xA, xM, xL, xT, xE, xN, xP, xR, xS, h0, h1, h7, h8, hlt, ↓bv_get hx, hb]
      exact retP_eq (by rw [hz]; rfl)
    | false =>
      rw [hb] at hz
      simp only [go_sem, xQ, ↓reduceIte, xA, xM, xL, xT, xE, xN, xP, xR, xS, h0, h1, h7, h8, hlt, ↓bv_get hx, hb]
      exact ⟨by rw [wrap_succ _ (by omega)], hz⟩
  · subst hk
    rw [List.drop_length, idxX] at hz
    simp only [go_sem, xQ, ↓reduceIte, xA, xM, xL, xT, xE, xN, xP, xR, xS, h0, h1, h7, h8, Nat.lt_irrefl]
    exact retP_eq (by rw [hz])
theorem f319 (l : List Bool) (hl : Fits l.length) (v : Bool) : PCalls Tryz.prog Γ 319 [slB l, .v (.bool v)] (.v (.bool (l.any fun b => v == b))) := by
  refine pcalls (ok319 Γ) fun σ => ?_
  simp only [go_sem, xQ, ↓reduceIte, xA, xM, xL, xT, xE, xN, xP, xR, xS, Tryz.f319]
  refine callB_use (f321 l hl v) rfl ?_
  simp only [go_sem, xQ, ↓reduceIte, xA, xM, xL, xT, xE, xN, xP, xR, xS]
  exact retP_eq (by rw [idxX_any])
theorem f317 (b : Bool) (l : List Bool) : PCalls Tryz.prog Γ 317 [slB (b :: l)] (.v (.bool (!b))) := by
  have h1 : (0 : Int) < ((l.length + 1 : Nat) : Int) := by omega
  refine pcalls (ok317 Γ) fun σ => ?_
  simp only [go_sem, xQ, ↓reduceIte, xA, xM, xL, xT, xE, xN, xP, xR, xS, Tryz.f317, h1, List.length_cons, List.map_cons, bv, List.getElem?_cons_zero]
theorem f318 (l : List Bool) (hl : Fits l.length) : PCalls Tryz.prog Γ 318 [slB l] (.v (.bool (!(l.any fun b => false == b)))) := by
  refine pcalls (ok318 Γ) fun σ => ?_
  simp only [go_sem, xQ, ↓reduceIte, xA, xM, xL, xT, xE, xN, xP, xR, xS, Tryz.f318]
  refine callB_use (f319 l hl false) rfl ?_
  simp only [go_sem, xQ, ↓reduceIte, xA, xM, xL, xT, xE, xN, xP, xR, xS]
theorem f320 (l : List Bool) (hl : Fits l.length) : PCalls Tryz.prog Γ 320 [slB l] (.v (.bool (l.any fun b => true == b))) := by
  refine pcalls (ok320 Γ) fun σ => ?_
  simp only [go_sem, xQ, ↓reduceIte, xA, xM, xL, xT, xE, xN, xP, xR, xS, Tryz.f320]
  refine callB_use (f319 l hl true) rfl ?_
  simp only [go_sem, xQ, ↓reduceIte, xA, xM, xL, xT, xE, xN, xP, xR, xS]
theorem f140 (acc : List Bool) (k : Nat) (b : Bool) (hk : acc[k]? = some b) (b7 : Nat) (a : AV) (σ0 σ : Sig) (h7 : σ b7 = some (.row [a] 1 1)) (hG : Grow σ0 σ 1 a (acc.map bv) acc.length) : ACalls Tryz.prog Γ 140 [int k, .v (.pointer (some ⟨b7, 0, none⟩))] σ fun r σ' => r = .v (.bool b) ∧ σ' = σ := by
  have hlt := lt_of_getElem? hk
  rcases hG with ⟨_, h, _⟩ | ⟨b0, c, rfl, h1, h2, h3⟩
  · simp at h
    rw [h] at hk
    simp at hk
  · have hg := bv_get hk
    refine pcallsAt (ok140 Γ) ?_
    simp only [go_sem, xQ, ↓reduceIte, xA, xM, xL, xT, xE, xN, xP, xR, xS, Tryz.f140, h7, h2, hlt, hg]
/-- What kids hold. -/
def kidsB (acc : List Bool) (kids : List Int) : List Bool := kids.map fun k => (acc[k.toNat]?).getD false
def nodeB (vs : List Int) (acc : List Bool) (n : Nd) : Bool :=
  if n.kind = 0 then decide (0 ≤ valueR n.term vs) else if n.kind = 1 then decide (valueR n.term vs = 0)
  else if n.kind = 2 then !((kidsB acc n.kids).headD false) else if n.kind = 3 then !((kidsB acc n.kids).any fun b => false == b) else (kidsB acc n.kids).any fun b => true == b
def truthF (vs : List Int) : List Nd → List Bool → List Bool
  | [], acc => acc
  | n :: l, acc => truthF vs l (acc ++ [nodeB vs acc n])
def holdsB (f : Fm) (vs : List Int) : Bool := (truthF vs f.nodes []).getLastD false
theorem truthF_len (vs : List Int) : ∀ (l : List Nd) (acc : List Bool), (truthF vs l acc).length = acc.length + l.length
  | [], acc => rfl
  | n :: l, acc => by rw [truthF, truthF_len vs l]; simp; omega
structure NodeOk (n : Nd) (i : Nat) (vars : Int) : Prop where
  lo : 0 ≤ n.kind
  hi : n.kind ≤ 4
  term : n.kind ≤ 1 → checkTermE n.term vars = 0 ∧ (n.term.coeffs.length : Int) = vars ∧ n.kids = []
  form : 2 ≤ n.kind → n.term = ⟨[], 0⟩ ∧ n.kids.length ≤ 200 ∧ (n.kind = 2 → n.kids.length = 1) ∧ ∀ k ∈ n.kids, 0 ≤ k ∧ k < i
theorem term_len {t : Tm} {n : Int} (h : checkTermE t n = 0) : (t.coeffs.length : Int) = n := by
  have h1 := (whenE_zero (by decide)).1 ((firstE_zero _).1 h (whenE (decide (¬ (t.coeffs.length : Int) = n)) 2) (by simp))
  simpa using h1
theorem node_ok {n : Nd} {i : Nat} {vars : Int} (h : nodeE n i vars = 0) : NodeOk n i vars := by
  unfold nodeE at h
  split at h
  · cases h
  · rename_i hk
    split at h
    · rename_i h1
      have h2 := (firstE_zero _).1 h
      have h3 := h2 (checkTermE n.term vars) (by simp)
      have h4 := (whenE_zero (by decide)).1 (h2 (whenE (decide ((0 : Int) < n.kids.length)) 2) (by simp))
      refine ⟨by omega, by omega, fun _ => ⟨h3, term_len h3, ?_⟩, fun h => by omega⟩
      simp at h4
      exact h4
    · rename_i h1
      have h2 := (firstE_zero _).1 h
      have h3 := (firstE_zero _).1 (h2 (formE n) (by simp))
      have a := (whenE_zero (by decide)).1 (h3 (whenE (decide ((0 : Int) < n.term.coeffs.length) || !decide (n.term.const = 0)) 1) (by simp))
      have b := (whenE_zero (by decide)).1 (h3 (whenE (decide ((200 : Int) < n.kids.length)) 5) (by simp))
      have c := (whenE_zero (by decide)).1 (h3 (whenE (decide (n.kind = 2) && !decide ((n.kids.length : Int) = 1)) 2) (by simp))
      have d := (firstE_zero _).1 (h2 (firstE (n.kids.map fun k => earlierE k i)) (by simp))
      refine ⟨by omega, by omega, fun h => by omega, fun _ => ⟨?_, ?_, fun h2 => ?_, fun k hk => ?_⟩⟩
      · simp at a
        obtain ⟨nk, ⟨tc, tk⟩, nn⟩ := n
        simp only at a ⊢
        rw [a.1, a.2]
      · simp at b; omega
      · simp [h2] at c; omega
      · have := d _ (List.mem_map_of_mem hk)
        have := (whenE_zero (by decide)).1 this
        simp at this
        omega
theorem nodes_zero {vars : Int} : ∀ (l : List Nd) (k : Nat), nodesE vars k l = 0 → ∀ i n, l[i]? = some n → nodeE n ((k + i : Nat) : Int) vars = 0
  | [], _, _, _, _, h => by simp at h
  | n :: l, k, h, i, m, hm => by
    rw [nodesE] at h
    split at h
    · rename_i h1
      cases i with
      | zero => simp at hm; subst hm; exact h1
      | succ i =>
        have := nodes_zero l (k + 1) h i m (by simpa using hm)
        rwa [show k + 1 + i = k + (i + 1) by omega] at this
    · rename_i h1
      exact absurd h h1
theorem check_ok {f : Fm} (h : checkE f = 0) : f.nodes ≠ [] ∧ f.nodes.length ≤ 200 ∧ 0 ≤ f.vars ∧ f.vars ≤ 8 ∧ ∀ i n, f.nodes[i]? = some n → NodeOk n i f.vars := by
  unfold checkE at h
  split at h
  · rename_i h0
    have h1 := (firstE_zero _).1 h0
    have a := h1 (withinE f.vars 0 8) (by simp)
    have b := (whenE_zero (by decide)).1 (h1 (whenE (decide ((f.nodes.length : Int) = 0)) 10) (by simp))
    have c := (whenE_zero (by decide)).1 (h1 (whenE (decide ((200 : Int) < (f.nodes.length : Int))) 5) (by simp))
    simp at b c
    unfold withinE at a
    split at a
    · cases a
    · refine ⟨b, by omega, by omega, by omega, fun i n hn => ?_⟩
      have := nodes_zero f.nodes 0 h i n hn
      rw [Nat.zero_add] at this
      exact node_ok this
  · rename_i h0
    exact absurd h h0
end Go.AL

/- Holds. -/
set_option linter.unusedVariables false
set_option linter.unusedSimpArgs false
namespace Go.AL
open Go.Proofs
variable {Γ : Glob}
attribute [local irreducible] codeW opsW dopsW
@[reducible] noncomputable def p41z (Γ : Glob) : Par := par Γ [7, 8, 37] [(1, [false, true]), (10, [false, false, false, false, false, true]), (12, [false, false, false, false, false, true]), (8, [false, false, false, false, false, false, false, false, false, false, false, true, true])] [(1, [0, 1, 0, 0, 8, 31, 63, 127, 255]), (10, [0, 0, 2, 6, 0, 30, 62, 126, 255, 511]), (12, [0, 0, 2, 6, 0, 30, 62, 126, 255, 511]), (8, [0, 0, 2, 6, 14, 30, 62, 0, 128, 384, 0, 1920, 4094, 8190, 16383, 32767])]
theorem ok41z (Γ : Glob) : FnOk (p41z Γ) 41 69 (Tryz.f41.body.getD .skip) Tryz.f41.results.toList 2 := fnOk (par_mixed _ _ _ _) Tryz.func41 rfl rfl rfl (by kernel_rfl) (Nat.le_of_ble_eq_true rfl) (by kernel_rfl)
theorem bools_ne {σ0 σ : Sig} {s n : Nat} {a : AV} {cs : List AV} (h : Grow σ0 σ s a cs n) (l : List Bool) : l.map bv ≠ [a] := fun e => by
  cases l with
  | nil => cases e
  | cons b l =>
    have := (List.cons.inj e).1
    rcases h with ⟨h, _⟩ | ⟨b', c, h0, h1, h2, h3⟩
    · rcases h with h | h <;> rw [h] at this <;> cases this
    · rw [h0] at this; cases this
def holdsE (f : Fm) (vs : List Int) : Int := firstE [checkE f, valuesE vs f.vars]
set_option maxHeartbeats 1000000 in
theorem f41 (hG' : Γ 0 = some sortsT) (f : Fm) (vs : List Int) (hl : Fits f.nodes.length) (hc : ∀ n ∈ f.nodes, NdFit n) (hvF : Fits vs.length) : PCalls Tryz.prog Γ 41 [fmA f, slI vs] (.tup [.v (.bool (if holdsE f vs = 0 then holdsB f vs else false)), int (holdsE f vs)]) := by
  have e20 : ((2 : Int) = 0) = False := eq_false (by decide)
  have e21 : ((2 : Int) = 1) = False := eq_false (by decide)
  have e30 : ((3 : Int) = 0) = False := eq_false (by decide)
  have e31 : ((3 : Int) = 1) = False := eq_false (by decide)
  have e40 : ((4 : Int) = 0) = False := eq_false (by decide)
  have e41 : ((4 : Int) = 1) = False := eq_false (by decide)
  refine pcalls (ok41z Γ) fun σ => ?_
  simp only [go_sem, xQ, ↓reduceIte, xA, xM, xL, xT, xE, xN, xP, xR, xS, Tryz.f41]
  refine dcallB_use (f47 hG' f hl hc) rfl ?_
  simp only [go_sem, xQ, ↓reduceIte, xA, xM, xL, xT, xE, xN, xP, xR, xS]
  refine callB_use (f136 vs _ hvF) rfl ?_
  simp only [go_sem, xQ, ↓reduceIte, xA, xM, xL, xT, xE, xN, xP, xR, xS]
  refine callB_use (f135 [_, _] (by simp)) rfl ?_
  by_cases h : holdsE f vs = 0
  · have h' := h
    unfold holdsE at h'
    have hE1 := (firstE_zero _).1 h'
    obtain ⟨hne, hl200, hv0, hv8, hok⟩ := check_ok (hE1 (checkE f) (by simp))
    have hvs : (vs.length : Int) = f.vars := by
      have := (whenE_zero (by decide)).1 ((firstE_zero _).1 (hE1 (valuesE vs f.vars) (by simp)) (whenE (!decide ((vs.length : Int) = f.vars)) 2) (by simp))
      simpa using this
    rw [h, if_pos rfl]
    simp only [go_sem, xQ, ↓reduceIte, xA, xM, xL, xT, xE, xN, xP, xR, xS, h']
    intro b7 hb7'
    simp only [go_sem, xQ, ↓reduceIte, xA, xM, xL, xT, xE, xN, xP, xR, xS, h']
    refine callB_use (f137 f) rfl ?_
    simp only [go_sem, xQ, ↓reduceIte, xA, xM, xL, xT, xE, xN, xP, xR, xS]
    have hDs : Drop (upd σ b7 (some (.row [.v (.slice none 0 0)] 1 1))) σ := (Drop.refl σ).upd hb7'
    refine SemC.rangeL (xs := nodesX f.nodes) (D := noD) (pre := fun _ => True) (f := 220) (first := []) (captured := [.pp (fmC f) 0]) mixed (by simp only [go_sem, xQ, ↓reduceIte, xA, xM, xL, xT, xE, xN, xP, xR, xS]) (f220 f hl) (by decide) (by kernel_rfl) (by kernel_rfl) noD_ctl (fun _ _ _ _ _ _ => trivial)
      (fun k σ' => ∃ acc a, σ' b7 = some (.row [a] 1 1) ∧ Grow σ σ' 1 a (acc.map bv) k ∧ Drop σ' σ ∧ (truthF vs f.nodes [] = truthF vs (f.nodes.drop k) acc ∧ acc.length = k))
      (fun e σ' => False)
      (fun k x ρ1 σ1 => ∃ n b8 acc a, (f.nodes[k]? = some n ∧ ρ1 2 = .pp (fmC f) 0 ∧ ρ1 3 = .pp [slI vs] 0 ∧ ρ1 7 = .v (.pointer (some ⟨b7, 0, none⟩)) ∧ ρ1 8 = .v (.pointer (some ⟨b8, 0, none⟩)) ∧ truthF vs f.nodes [] = truthF vs (f.nodes.drop k) acc ∧ acc.length = k) ∧ σ1 b8 = some (.row (atC n k) 5 1) ∧ σ1 b7 = some (.row [a] 1 1) ∧ Grow σ σ1 1 a (acc.map bv) k ∧ Drop σ1 σ)
      (by (intros; repeat' (first | exact Closed.row (fun h => h) | exact Closed.grow (fun _ h => h) | exact Closed.drop hDs (fun _ _ _ h => h) | exact Closed.map (fun h => h) | exact Closed.const _ | refine Closed.ex fun _ => ?_ | refine Closed.and ?_ ?_))) (by (intros; repeat' (first | exact Closed.row (fun h => h) | exact Closed.grow (fun _ h => h) | exact Closed.drop hDs (fun _ _ _ h => h) | exact Closed.map (fun h => h) | exact Closed.const _ | refine Closed.ex fun _ => ?_ | refine Closed.and ?_ ?_))) (by (intros; repeat' (first | exact Closed.row (fun h => h) | exact Closed.grow (fun _ h => h) | exact Closed.drop hDs (fun _ _ _ h => h) | exact Closed.map (fun h => h) | exact Closed.const _ | refine Closed.ex fun _ => ?_ | refine Closed.and ?_ ?_)))
      ?_ ?_ ?_ ?_ ?_
    · exact ⟨[], _, by simp only [go_sem, xQ, ↓reduceIte, xA, xM, xL, xT, xE, xN, xP, xR, xS], .nil _ _ _, (Drop.refl σ).upd hb7', rfl, rfl⟩
    · rintro k x E σ' l hE hx ⟨acc, a, hs7, hG, hD, hz, hacc⟩
      obtain ⟨n, hn, rfl⟩ := nodesX_get hx
      have e2 : E 2 = .pp (fmC f) 0 := by rw [hE 2 (by decide)]; simp only [go_sem, xQ, ↓reduceIte, xA, xM, xL, xT, xE, xN, xP, xR, xS]
      have e3 : E 3 = .pp [slI vs] 0 := by rw [hE 3 (by decide)]; simp only [go_sem, xQ, ↓reduceIte, xA, xM, xL, xT, xE, xN, xP, xR, xS]
      have e7 : E 7 = .v (.pointer (some ⟨b7, 0, none⟩)) := by rw [hE 7 (by decide)]; simp only [go_sem, xQ, ↓reduceIte, xA, xM, xL, xT, xE, xN, xP, xR, xS]
      simp only [go_sem, xQ, ↓reduceIte, xA, xM, xL, xT, xE, xN, xP, xR, xS, e2, e3, e7]
      intro b8 hb8
      have n8 : ¬ b7 = b8 := nn hb8 hs7
      simp only [go_sem, xQ, ↓reduceIte, xA, xM, xL, xT, xE, xN, xP, xR, xS, e2, e3, e7, n8]
      refine ⟨(Keep.refl _ _).upd (keep_none hb8), n, b8, acc, a, ?_⟩
      simp only [go_sem, xQ, ↓reduceIte, xA, xM, xL, xT, xE, xN, xP, xR, xS, e2, e3, e7, n8, hn, hs7]
      exact ⟨⟨hz, hacc⟩, (hG.updF hb8), hD.upd (hD.free hb8)⟩
    · rintro k x ρ1 σ' l hx ⟨n, b8, acc, a, ⟨hn, h2, h3, h7, h8, hz, hacc⟩, hs8, hs7, hG, hD⟩
      have n8 : ¬ b7 = b8 := rn hs7 hs8 (by decide)
      have hk := hok k n hn
      have hk200 := lt_of_getElem? hn
      have hcn := hc n (mem_of_get hn)
      have k10 : ((1 : Int) = 0) = False := eq_false (by decide)
      by_cases hk0 : n.kind = 0
      · have ht := (hk.term (by omega)).2.1
        simp only [go_sem, xQ, ↓reduceIte, xA, xM, xL, xT, xE, xN, xP, xR, xS, h2, h3, h7, h8, hs8, hs7, n8, hk0]
        refine dcallB_use (f138 n.term vs hvF (by omega)) rfl ?_
        simp only [go_sem, xQ, ↓reduceIte, xA, xM, xL, xT, xE, xN, xP, xR, xS, h2, h3, h7, h8, hs8, hs7]
        refine appB_sl (appT_sl el211 tk4 by4 el211 (by decide) rfl (by decide)) hD hG rfl rfl (by omega) (fun a' σ2 hD2 hO hG2 => ?_)
        have e7 : σ2 b7 = some (.row [a] 1 1) := by
          rw [hO b7 (hG.neC hs7 (bools_ne hG acc)) (by rw [hs7]; simp)]; exact hs7
        have hc2 := hG2.cellsX
        have ho2 := hG2.oneX
        simp only [go_sem, xQ, ↓reduceIte, xA, xM, xL, xT, xE, xN, xP, xR, xS, h2, h3, h7, h8, e7, hc2, ho2]
        refine ⟨(keep_others hO hG).trans ((Keep.refl _ _).upd (keep_row e7 (fun h => h))), acc ++ [nodeB vs acc n], a', by simp only [go_sem, xQ, ↓reduceIte, xA, xM, xL, xT, xE, xN, xP, xR, xS], ?_, hD2.upd hb7', by rw [hz, drop_of_get hn, truthF], by simp [hacc]⟩
        have hnb : nodeB vs acc n = decide (0 ≤ valueR n.term vs) := by unfold nodeB; rw [if_pos hk0]
        rw [hnb]
        have hG3 : Grow σ σ2 1 a' ((acc ++ [decide (0 ≤ valueR n.term vs)]).map bv) (k + 1) := by simpa [bv] using hG2
        exact hG3.updW (hG3.neC e7 (bools_ne hG _)) _
      · by_cases hk1 : n.kind = 1
        · have ht := (hk.term (by omega)).2.1
          simp only [go_sem, xQ, ↓reduceIte, xA, xM, xL, xT, xE, xN, xP, xR, xS, h2, h3, h7, h8, hs8, hs7, n8, hk1, k10]
          refine dcallB_use (f138 n.term vs hvF (by omega)) rfl ?_
          simp only [go_sem, xQ, ↓reduceIte, xA, xM, xL, xT, xE, xN, xP, xR, xS, h2, h3, h7, h8, hs8, hs7]
          refine appB_sl (appT_sl el211 tk4 by4 el211 (by decide) rfl (by decide)) hD hG rfl rfl (by omega) (fun a' σ2 hD2 hO hG2 => ?_)
          have e7 : σ2 b7 = some (.row [a] 1 1) := by
            rw [hO b7 (hG.neC hs7 (bools_ne hG acc)) (by rw [hs7]; simp)]; exact hs7
          have hc2 := hG2.cellsX
          have ho2 := hG2.oneX
          simp only [go_sem, xQ, ↓reduceIte, xA, xM, xL, xT, xE, xN, xP, xR, xS, h2, h3, h7, h8, e7, hc2, ho2]
          refine ⟨(keep_others hO hG).trans ((Keep.refl _ _).upd (keep_row e7 (fun h => h))), acc ++ [nodeB vs acc n], a', by simp only [go_sem, xQ, ↓reduceIte, xA, xM, xL, xT, xE, xN, xP, xR, xS], ?_, hD2.upd hb7', by rw [hz, drop_of_get hn, truthF], by simp [hacc]⟩
          have hnb : nodeB vs acc n = decide (valueR n.term vs = 0) := by unfold nodeB; rw [if_neg hk0, if_pos hk1]
          rw [hnb]
          have hG3 : Grow σ σ2 1 a' ((acc ++ [decide (valueR n.term vs = 0)]).map bv) (k + 1) := by simpa [bv] using hG2
          exact hG3.updW (hG3.neC e7 (bools_ne hG _)) _
        · obtain ⟨hterm, hk200', hk1', hkr⟩ := hk.form (by have := hk.lo; omega)
          have hcall : ∀ τ : Sig, (∀ b x, σ' b = some x → τ b = some x) → ∀ K : AV → Sig → Prop, K (slB (kidsB acc n.kids)) τ → callB Tryz.prog Γ (.fn (.func 139) [] []) [slI n.kids, .fn (.func 140) [] [.v (.pointer (some ⟨b7, 0, none⟩))]] τ K := fun τ heτ K hK => by
            refine callB_a (ACalls.mono (f139 n.kids hcn.2 _ (fun k => (acc[k.toNat]?).getD false) τ ?_) (fun r σ2 ⟨hr, hs⟩ => by subst hr; subst hs; exact hK)) rfl
            intro x hx σ2 hext0 K hK
            have hext : ∀ b, σ' b ≠ none → σ2 b = σ' b := fun b hb => by
              cases h : σ' b with
              | none => exact absurd h hb
              | some y => rw [hext0 b (by rw [heτ b y h]; simp), heτ b y h]
            obtain ⟨hxr0, hxr⟩ : 0 ≤ x ∧ x < (k : Int) := hkr x hx
            obtain ⟨b, hb⟩ : ∃ b, acc[x.toNat]? = some b := ⟨acc[x.toNat]'(by omega), List.getElem?_eq_getElem _⟩
            have hxe : x = ((x.toNat : Nat) : Int) := by omega
            refine callB_a (args' := [int (x.toNat : Nat), .v (.pointer (some ⟨b7, 0, none⟩))]) (ACalls.mono (f140 acc x.toNat b hb b7 a σ σ2 (by rw [hext b7 (by rw [hs7]; simp)]; exact hs7) (by rw [hacc]; exact hG.frame fun b _ h => hext b h)) (fun r σ3 ⟨hr, hs⟩ => by subst hr; subst hs; simpa [hb] using hK)) (by rw [← hxe]; rfl)
          have hkl : (kidsB acc n.kids).length = n.kids.length := by simp [kidsB]
          have hcases : n.kind = 2 ∨ n.kind = 3 ∨ n.kind = 4 := by have := hk.lo; have := hk.hi; omega
          rcases hcases with hk2 | hk2 | hk2
          · obtain ⟨x, hx⟩ : ∃ x, n.kids = [x] := List.length_eq_one_iff.1 (hk1' hk2)
            obtain ⟨b, hb⟩ : ∃ b, kidsB acc n.kids = [b] := ⟨_, by rw [hx]; rfl⟩
            rw [hb] at hcall
            simp only [go_sem, xQ, ↓reduceIte, xA, xM, xL, xT, xE, xN, xP, xR, xS, h2, h3, h7, h8, hs8, hs7, n8, hk2, e20, e21, e30, e31, e40, e41, hG', sortsT]
            refine ⟨_, hcall, ?_⟩
            simp only [go_sem, xQ, ↓reduceIte, xA, xM, xL, xT, xE, xN, xP, xR, xS, h2, h3, h7, h8, hs8, hs7, n8, hk2, hG', sortsT]
            refine dcallB_use (f317 b []) rfl ?_
            simp only [go_sem, xQ, ↓reduceIte, xA, xM, xL, xT, xE, xN, xP, xR, xS, h2, h3, h7, h8, hs8, hs7]
            refine appB_sl (appT_sl el211 tk4 by4 el211 (by decide) rfl (by decide)) hD hG rfl rfl (by omega) (fun a' σ2 hD2 hO hG2 => ?_)
            have e7 : σ2 b7 = some (.row [a] 1 1) := by
              rw [hO b7 (hG.neC hs7 (bools_ne hG acc)) (by rw [hs7]; simp)]; exact hs7
            have hc2 := hG2.cellsX
            have ho2 := hG2.oneX
            simp only [go_sem, xQ, ↓reduceIte, xA, xM, xL, xT, xE, xN, xP, xR, xS, h2, h3, h7, h8, e7, hc2, ho2]
            refine ⟨(keep_others hO hG).trans ((Keep.refl _ _).upd (keep_row e7 (fun h => h))), acc ++ [nodeB vs acc n], a', by simp only [go_sem, xQ, ↓reduceIte, xA, xM, xL, xT, xE, xN, xP, xR, xS], ?_, hD2.upd hb7', by rw [hz, drop_of_get hn, truthF], by simp [hacc]⟩
            have hnb : nodeB vs acc n = !b := by unfold nodeB; rw [if_neg hk0, if_neg hk1, if_pos hk2, hb]; rfl
            rw [hnb]
            have hG3 : Grow σ σ2 1 a' ((acc ++ [!b]).map bv) (k + 1) := by simpa [bv] using hG2
            exact hG3.updW (hG3.neC e7 (bools_ne hG _)) _
          · simp only [go_sem, xQ, ↓reduceIte, xA, xM, xL, xT, xE, xN, xP, xR, xS, h2, h3, h7, h8, hs8, hs7, n8, hk2, e20, e21, e30, e31, e40, e41, hG', sortsT]
            refine ⟨_, hcall, ?_⟩
            simp only [go_sem, xQ, ↓reduceIte, xA, xM, xL, xT, xE, xN, xP, xR, xS, h2, h3, h7, h8, hs8, hs7, n8, hk2, hG', sortsT]
            refine dcallB_use (f318 _ (by rw [hkl]; exact hcn.2)) rfl ?_
            simp only [go_sem, xQ, ↓reduceIte, xA, xM, xL, xT, xE, xN, xP, xR, xS, h2, h3, h7, h8, hs8, hs7]
            refine appB_sl (appT_sl el211 tk4 by4 el211 (by decide) rfl (by decide)) hD hG rfl rfl (by omega) (fun a' σ2 hD2 hO hG2 => ?_)
            have e7 : σ2 b7 = some (.row [a] 1 1) := by
              rw [hO b7 (hG.neC hs7 (bools_ne hG acc)) (by rw [hs7]; simp)]; exact hs7
            have hc2 := hG2.cellsX
            have ho2 := hG2.oneX
            simp only [go_sem, xQ, ↓reduceIte, xA, xM, xL, xT, xE, xN, xP, xR, xS, h2, h3, h7, h8, e7, hc2, ho2]
            refine ⟨(keep_others hO hG).trans ((Keep.refl _ _).upd (keep_row e7 (fun h => h))), acc ++ [nodeB vs acc n], a', by simp only [go_sem, xQ, ↓reduceIte, xA, xM, xL, xT, xE, xN, xP, xR, xS], ?_, hD2.upd hb7', by rw [hz, drop_of_get hn, truthF], by simp [hacc]⟩
            have hnb : nodeB vs acc n = !((kidsB acc n.kids).any fun b => false == b) := by unfold nodeB; rw [if_neg hk0, if_neg hk1, if_neg (by omega), if_pos hk2]
            rw [hnb]
            have hG3 : Grow σ σ2 1 a' ((acc ++ [!((kidsB acc n.kids).any fun b => false == b)]).map bv) (k + 1) := by simpa [bv] using hG2
            exact hG3.updW (hG3.neC e7 (bools_ne hG _)) _
          · simp only [go_sem, xQ, ↓reduceIte, xA, xM, xL, xT, xE, xN, xP, xR, xS, h2, h3, h7, h8, hs8, hs7, n8, hk2, e20, e21, e30, e31, e40, e41, hG', sortsT]
            refine ⟨_, hcall, ?_⟩
            simp only [go_sem, xQ, ↓reduceIte, xA, xM, xL, xT, xE, xN, xP, xR, xS, h2, h3, h7, h8, hs8, hs7, n8, hk2, hG', sortsT]
            refine dcallB_use (f320 _ (by rw [hkl]; exact hcn.2)) rfl ?_
            simp only [go_sem, xQ, ↓reduceIte, xA, xM, xL, xT, xE, xN, xP, xR, xS, h2, h3, h7, h8, hs8, hs7]
            refine appB_sl (appT_sl el211 tk4 by4 el211 (by decide) rfl (by decide)) hD hG rfl rfl (by omega) (fun a' σ2 hD2 hO hG2 => ?_)
            have e7 : σ2 b7 = some (.row [a] 1 1) := by
              rw [hO b7 (hG.neC hs7 (bools_ne hG acc)) (by rw [hs7]; simp)]; exact hs7
            have hc2 := hG2.cellsX
            have ho2 := hG2.oneX
            simp only [go_sem, xQ, ↓reduceIte, xA, xM, xL, xT, xE, xN, xP, xR, xS, h2, h3, h7, h8, e7, hc2, ho2]
            refine ⟨(keep_others hO hG).trans ((Keep.refl _ _).upd (keep_row e7 (fun h => h))), acc ++ [nodeB vs acc n], a', by simp only [go_sem, xQ, ↓reduceIte, xA, xM, xL, xT, xE, xN, xP, xR, xS], ?_, hD2.upd hb7', by rw [hz, drop_of_get hn, truthF], by simp [hacc]⟩
            have hnb : nodeB vs acc n = (kidsB acc n.kids).any fun b => true == b := by unfold nodeB; rw [if_neg hk0, if_neg hk1, if_neg (by omega), if_neg (by omega)]
            rw [hnb]
            have hG3 : Grow σ σ2 1 a' ((acc ++ [(kidsB acc n.kids).any fun b => true == b]).map bv) (k + 1) := by simpa [bv] using hG2
            exact hG3.updW (hG3.neC e7 (bools_ne hG _)) _
    · rintro σ' r hr' ⟨acc, a, hs7, hG, hD, hz, hacc⟩ hd
      have hlen : (nodesX f.nodes).length = f.nodes.length := by rw [nodesX, List.length_mapIdx]
      rw [hlen] at hG hz hacc
      rw [List.drop_length, truthF] at hz
      have hpos : 0 < f.nodes.length := List.length_pos_iff.2 hne
      have n1 : ¬ b7 = r := dn hd hs7
      rcases hG with ⟨_, hG, _⟩ | ⟨b0, c, rfl, hn0, hr0, hl0⟩
      · have := congrArg List.length hG
        simp at this
        rw [this] at hacc
        simp at hacc
        omega
      · have hw : IntKind.i64.wrap ((f.nodes.length : Int) - 1) = ((f.nodes.length - 1 : Nat) : Int) := by rw [wrap_i64 _ (by omega) (by omega)]; omega
        have hlt1 : f.nodes.length - 1 < f.nodes.length := by omega
        obtain ⟨b, hb⟩ : ∃ b, acc[f.nodes.length - 1]? = some b := ⟨acc[f.nodes.length - 1]'(by omega), List.getElem?_eq_getElem _⟩
        have hres : holdsB f vs = b := by
          rw [holdsB, hz, List.getLastD_eq_getLast?, List.getLast?_eq_getElem?, hacc, hb]
          rfl
        simp only [go_sem, xQ, ↓reduceIte, xA, xM, xL, xT, xE, xN, xP, xR, xS, hs7, hr0, hw, hlt1, ↓bv_get hb, hd]
        exact retP_drop (hD.ersX (un hr').2) (by rw [hres])
    · rintro e σ' r hr' hF hd
      exact hF.elim
  · have h' := h
    unfold holdsE at h'
    simp only [go_sem, xQ, ↓reduceIte, xA, xM, xL, xT, xE, xN, xP, xR, xS, h']
    exact retP_eq (by rw [if_neg h]; rfl)
end Go.AL

/- Own copies of nodes; terms added; Opposite. -/
set_option linter.unusedVariables false
set_option linter.unusedSimpArgs false
namespace Go.AL
open Go.Proofs
variable {Γ : Glob}
attribute [local irreducible] codeW opsW dopsW
theorem Grow.neS {σ0 σ : Sig} {s n b s' c' : Nat} {a : AV} {cs cs' : List AV} (h : Grow σ0 σ s a cs n) (hb : σ b = some (.row cs' s' c')) (hs : s' ≠ s) : ∀ s1 o m, a ≠ .own b s1 o m := fun s1 o m e => by
  rcases h with ⟨h, _⟩ | ⟨b', c, h0, h1, h2, h3⟩
  · rcases h with h | h <;> rw [h] at e <;> cases e
  · rw [h0] at e
    cases e
    rw [hb] at h2
    cases h2
    exact hs rfl
theorem f193 (l : List Int) (hl : Fits l.length) : PCalls Tryz.prog Γ 193 [slI l] (slI l) := by
  by_cases h : l = []
  · subst h
    refine pcalls_nil ?_ (fun a c => ?_)
    · refine pcalls (ok193 Γ) fun σ => ?_
      simp only [go_sem, xQ, ↓reduceIte, xA, xM, xL, xT, xE, xN, xP, xR, xS, Tryz.f193]
      exact ⟨.nil, Drop.refl _⟩
    · refine pcalls (ok193 Γ) fun σ => ?_
      simp only [go_sem, xQ, ↓reduceIte, xA, xM, xL, xT, xE, xN, xP, xR, xS, Tryz.f193]
      refine appB_weak weak_empty (appB_pure (appT_sl el46 tk3 by3 el46 (by decide) rfl (by decide)) (.inr rfl) (src_slI _ []) (by simp [ints]) (by omega) ?_)
      simp only [go_sem, xQ, ↓reduceIte, xA, xM, xL, xT, xE, xN, xP, xR, xS]
  · have h' : ints l ≠ [] := by simpa [ints] using h
    refine pcalls (ok193 Γ) fun σ => ?_
    simp only [go_sem, xQ, ↓reduceIte, xA, xM, xL, xT, xE, xN, xP, xR, xS, Tryz.f193, h']
    refine appB_pure (appT_sl el46 tk3 by3 el46 (by decide) rfl (by decide)) (.inr rfl) (src_slI _ l) (by simp [ints]) (by omega) ?_
    simp only [go_sem, xQ, ↓reduceIte, xA, xM, xL, xT, xE, xN, xP, xR, xS]
theorem f151 (t : Tm) (hl : Fits t.coeffs.length) : PCalls Tryz.prog Γ 151 [tmA t] (tmA t) := by
  refine pcalls (ok151 Γ) fun σ => ?_
  simp only [go_sem, xQ, ↓reduceIte, xA, xM, xL, xT, xE, xN, xP, xR, xS, Tryz.f151]
  intro b hb
  simp only [go_sem, xQ, ↓reduceIte, xA, xM, xL, xT, xE, xN, xP, xR, xS]
  refine callB_use (f193 t.coeffs hl) rfl ?_
  simp only [go_sem, xQ, ↓reduceIte, xA, xM, xL, xT, xE, xN, xP, xR, xS]
  exact retP_drop (by repeat (first | exact Drop.refl _ | assumption | refine Drop.upd ?_ (by assumption))) (rfl)
theorem f227 (k n : Int) : PCalls Tryz.prog Γ 227 [int k, .pp [int n] 0] (int (IntKind.i64.wrap (k + n))) := by
  refine pcalls (ok227 Γ) fun σ => ?_
  simp only [go_sem, xQ, ↓reduceIte, xA, xM, xL, xT, xE, xN, xP, xR, xS, Tryz.f227]
theorem f226 (l : List Int) (hl : Fits l.length) (fv : AV) (g : Int → Int) (hg : ∀ x ∈ l, DCall Tryz.prog Γ fv [int x] (int (g x))) : PCalls Tryz.prog Γ 226 [slI l, fv] (slI (l.map g)) := by
  refine pcalls (ok226 Γ) fun σ => ?_
  simp only [go_sem, xQ, ↓reduceIte, xA, xM, xL, xT, xE, xN, xP, xR, xS, Tryz.f226]
  refine SemC.loopK mixed l.length (fun k ρ σ' ds => Drop σ' σ ∧ ds = [] ∧ ρ 1 = fv ∧ ρ 8 = slI l ∧ ρ 9 = int l.length ∧ ρ 10 = int k ∧ Grow σ σ' 1 (ρ 5) (ints ((l.take k).map g)) k) (by kernel_rfl) ⟨.refl _, rfl, rfl, rfl, rfl, rfl, .nil _ _ _⟩ ?_
  rintro k ρ σ' ds hk ⟨hD, rfl, h1, h8, h9, h10, hG⟩
  rcases get_or_end l k hk with ⟨x, hx, hlt, hd⟩ | rfl
  · simp only [go_sem, xQ, ↓reduceIte, xA, xM, xL, xT, xE, xN, xP, xR, xS, h1, h8, h9, h10, hlt, hx]
    refine callB_d (hg x (mem_of_get hx)) ?_
    simp only [go_sem, xQ, ↓reduceIte, xA, xM, xL, xT, xE, xN, xP, xR, xS]
    refine appB_sl (appT_sl el46 tk3 by3 el46 (by decide) rfl (by decide)) hD hG rfl rfl (by omega) (fun a' σ2 hD2 hO hG2 => ?_)
    simp only [go_sem, xQ, ↓reduceIte, xA, xM, xL, xT, xE, xN, xP, xR, xS, h1, h8, h9, h10]
    refine ⟨hD2, by rw [wrap_succ _ (by omega)], ?_⟩
    rw [take_succ hx]
    simpa [ints, int] using hG2
  · simp only [go_sem, xQ, ↓reduceIte, xA, xM, xL, xT, xE, xN, xP, xR, xS, h8, h9, h10, Nat.lt_irrefl]
    have := hG.retP hD
    simpa [slI] using this
def shiftN (n : Int) (x : Nd) : Nd := ⟨x.kind, x.term, x.kids.map fun k => IntKind.i64.wrap (k + n)⟩
theorem f156 (x : Nd) (n : Int) (hx : NdFit x) : PCalls Tryz.prog Γ 156 [ndA x, int n] (ndA (shiftN n x)) := by
  have ht := hx.1
  have hk := hx.2
  refine pcalls (ok156 Γ) fun σ => ?_
  simp only [go_sem, xQ, ↓reduceIte, xA, xM, xL, xT, xE, xN, xP, xR, xS, Tryz.f156]
  intro b hb
  simp only [go_sem, xQ, ↓reduceIte, xA, xM, xL, xT, xE, xN, xP, xR, xS]
  refine dcallB_use (f151 x.term ht) rfl ?_
  simp only [go_sem, xQ, ↓reduceIte, xA, xM, xL, xT, xE, xN, xP, xR, xS]
  refine dcallB_use (f226 x.kids hk _ (fun k => IntKind.i64.wrap (k + n)) (fun k _ => dcall_of (f227 k n) rfl)) rfl ?_
  simp only [go_sem, xQ, ↓reduceIte, xA, xM, xL, xT, xE, xN, xP, xR, xS]
  exact retP_drop (by repeat (first | exact Drop.refl _ | assumption | refine Drop.upd ?_ (by assumption))) (by simp [shiftN, ndA, ndC, slI, int])
theorem f165 (x : Nd) (hx : NdFit x) : PCalls Tryz.prog Γ 165 [ndA x] (ndA (shiftN 0 x)) := by
  refine pcalls (ok165 Γ) fun σ => ?_
  simp only [go_sem, xQ, ↓reduceIte, xA, xM, xL, xT, xE, xN, xP, xR, xS, Tryz.f165]
  intro b hb
  simp only [go_sem, xQ, ↓reduceIte, xA, xM, xL, xT, xE, xN, xP, xR, xS]
  refine callB_use (f156 x 0 hx) rfl ?_
  simp only [go_sem, xQ, ↓reduceIte, xA, xM, xL, xT, xE, xN, xP, xR, xS]
  exact retP_drop (by repeat (first | exact Drop.refl _ | assumption | refine Drop.upd ?_ (by assumption))) (rfl)
theorem f163 (l : List Nd) (hl : Fits l.length) (fv : AV) (g : Nd → Nd) (hg : ∀ x ∈ l, DCall Tryz.prog Γ fv [ndA x] (ndA (g x))) : PCalls Tryz.prog Γ 163 [slN l, fv] (slN (l.map g)) := by
  refine pcalls (ok163 Γ) fun σ => ?_
  simp only [go_sem, xQ, ↓reduceIte, xA, xM, xL, xT, xE, xN, xP, xR, xS, Tryz.f163]
  refine SemC.loopK mixed l.length (fun k ρ σ' ds => Drop σ' σ ∧ ds = [] ∧ ρ 1 = fv ∧ ρ 8 = slN l ∧ ρ 9 = int l.length ∧ ρ 10 = int k ∧ Grow σ σ' 4 (ρ 5) (((l.take k).map g).flatMap ndC) k) (by kernel_rfl) ⟨.refl _, rfl, rfl, rfl, rfl, rfl, .nil _ _ _⟩ ?_
  rintro k ρ σ' ds hk ⟨hD, rfl, h1, h8, h9, h10, hG⟩
  rcases get_or_end l k hk with ⟨x, hx, hlt, hd⟩ | rfl
  · simp only [go_sem, xQ, ↓reduceIte, xA, xM, xL, xT, xE, xN, xP, xR, xS, h1, h8, h9, h10, hlt, hx, ↓nd_part hx]
    intro b hb
    simp only [go_sem, xQ, ↓reduceIte, xA, xM, xL, xT, xE, xN, xP, xR, xS, h1, h8, h9, h10, hlt, hx, ↓nd_part hx]
    refine callB_d (hg x (mem_of_get hx)) ?_
    simp only [go_sem, xQ, ↓reduceIte, xA, xM, xL, xT, xE, xN, xP, xR, xS]
    refine appB_sl (appT_sl el64 tk216 by216 el64 (by decide) rfl (by decide)) (hD.upd (hD.free hb)) (hG.upd hb) rfl rfl (by omega) (fun a' σ2 hD2 hO hG2 => ?_)
    simp only [go_sem, xQ, ↓reduceIte, xA, xM, xL, xT, xE, xN, xP, xR, xS, h1, h8, h9, h10]
    refine ⟨hD2, by rw [wrap_succ _ (by omega)], ?_⟩
    rw [take_succ hx, List.map_append, List.flatMap_append]
    simpa [ndC, slI, int] using hG2
  · simp only [go_sem, xQ, ↓reduceIte, xA, xM, xL, xT, xE, xN, xP, xR, xS, h8, h9, h10, Nat.lt_irrefl]
    have := hG.retP hD
    rw [List.take_length] at this
    rw [List.length_map]
    exact this
/-! ### Terms added -/
def plusC (m : Int) : List Int → List Int → List Int
  | a :: bs, c :: cs => IntKind.i64.wrap (a + IntKind.i64.wrap (m * c)) :: plusC m bs cs
  | bs, [] => bs
  | [], _ => []
theorem plusC_nil (m : Int) (l : List Int) : plusC m l [] = l := by cases l <;> rfl
theorem plusC_len (m : Int) : ∀ (l cs : List Int), (plusC m l cs).length = l.length
  | [], [] => rfl
  | [], _ :: _ => rfl
  | _ :: _, [] => rfl
  | a :: l, c :: cs => by rw [plusC, List.length_cons, List.length_cons, plusC_len m l cs]
theorem plusC_get (m : Int) : ∀ (l cs : List Int) (k : Nat) (a c : Int), l[k]? = some a → cs[k]? = some c → (plusC m l cs)[k]? = some (IntKind.i64.wrap (a + IntKind.i64.wrap (m * c)))
  | [], _, _, _, _, h, _ => by simp at h
  | _ :: _, [], _, _, _, _, h => by simp at h
  | x :: l, y :: cs, 0, a, c, h, k => by simp at h k; subst h; subst k; rfl
  | x :: l, y :: cs, k + 1, a, c, h, h' => by
    rw [plusC, List.getElem?_cons_succ]
    exact plusC_get m l cs k a c (by simpa using h) (by simpa using h')
theorem plusC_past (m : Int) : ∀ (l cs : List Int) (k : Nat), cs.length ≤ k → (plusC m l cs).drop k = l.drop k
  | l, [], k, _ => by rw [plusC_nil]
  | [], c :: cs, k, _ => rfl
  | a :: l, c :: cs, 0, h => by simp at h
  | a :: l, c :: cs, k + 1, h => by
    rw [plusC, List.drop_succ_cons, List.drop_succ_cons]
    exact plusC_past m l cs k (by simpa using h)
def mix (l l' : List Int) (k : Nat) : List Int := l'.take k ++ l.drop k
theorem mix_zero (l l' : List Int) : mix l l' 0 = l := by simp [mix]
theorem mix_len {l l' : List Int} (h : l'.length = l.length) {k : Nat} (hk : k ≤ l.length) : (mix l l' k).length = l.length := by simp [mix]; omega
theorem mix_get {l l' : List Int} (h : l'.length = l.length) {k : Nat} (hk : k ≤ l.length) : (mix l l' k)[k]? = l[k]? := by
  have hm : (l'.take k).length = k := by rw [List.length_take, h]; exact Nat.min_eq_left hk
  rw [mix, List.getElem?_append_right (by omega), hm, Nat.sub_self, List.getElem?_drop, Nat.add_zero]
theorem mix_set {l l' : List Int} (h : l'.length = l.length) {k : Nat} {x : Int} (hk : k < l.length) (hx : l'[k]? = some x) : (mix l l' k).set k x = mix l l' (k + 1) := by
  have hl : (l'.take k).length = k := by simp; omega
  rw [mix, mix, take_succ hx, List.set_append_right _ _ (by omega), hl, Nat.sub_self]
  obtain ⟨y, hy, hd⟩ : ∃ y, l[k]? = some y ∧ l.drop k = y :: l.drop (k + 1) := ⟨l[k], List.getElem?_eq_getElem hk, by rw [List.drop_eq_getElem_cons hk]⟩
  rw [hd, List.set_cons_zero, List.append_assoc, List.singleton_append]
theorem ints_put' {l : List Int} {k : Nat} {x : Int} (h : k < l.length) : putL (ints l) k [AV.v (.int .i64 x)] = ints (l.set k x) := by
  rw [putL, ints, ints, List.map_set, List.set_eq_take_append_cons_drop, if_pos (by simpa using h)]
  simp [int]
theorem ints_zeros' (n : Nat) : (List.replicate n [AV.v (.int .i64 0)]).flatten = ints (List.replicate n 0) := by
  induction n with
  | zero => rfl
  | succ n ih => rw [List.replicate_succ, List.replicate_succ, List.flatten_cons, ih]; rfl
theorem ints_one (l : List Int) : (ints l).all AV.one = true := by
  induction l with
  | nil => rfl
  | cons t l ih => rw [ints, List.map_cons, List.all_cons]; exact ih
theorem frz_own {σ : Sig} {b s c n : Nat} {cs : List AV} (h : σ b = some (.row cs s c)) (hn : cs.length = n * s) {σ' : Sig} (h' : σ' b = none) : Fz σ σ' (.own b s 0 n) (.sl cs n) := by
  refine .own h h' ?_
  have : (cs.drop (0 * s)).take (n * s) = cs := by simp [← hn]
  rw [this]
  exact .refl cs
def plusT (t x : Tm) (m : Int) : Tm := ⟨plusC m t.coeffs x.coeffs, IntKind.i64.wrap (t.const + IntKind.i64.wrap (m * x.const))⟩
theorem f158 (t x : Tm) (m : Int) (hl : Fits t.coeffs.length) (hx : x.coeffs.length ≤ t.coeffs.length) : PCalls Tryz.prog Γ 158 [tmA t, tmA x, int m] (tmA (plusT t x m)) := by
  have hA8 : (8 : Int) * t.coeffs.length ≤ 140737488355328 := by omega
  have hA9 : (t.coeffs.length : Int) ≤ 9223372036854775807 := by omega
  refine pcalls (ok158 Γ) fun σ => ?_
  simp only [go_sem, xQ, ↓reduceIte, xA, xM, xL, xT, xE, xN, xP, xR, xS, Tryz.f158]
  intro b6 hb6
  simp only [go_sem, xQ, ↓reduceIte, xA, xM, xL, xT, xE, xN, xP, xR, xS, hA8, hA9, ints_zeros']
  intro bs hbs
  obtain ⟨ns, hbs⟩ := un hbs
  have ns' : ¬ b6 = bs := fun e => ns e.symm
  simp only [go_sem, xQ, ↓reduceIte, xA, xM, xL, xT, xE, xN, xP, xR, xS, hA8, hA9, ints_zeros', ns, ns']
  intro b7 hb7
  obtain ⟨n7s, hb7⟩ := un hb7
  obtain ⟨n76, hb7⟩ := un hb7
  have n7s' : ¬ bs = b7 := fun e => n7s e.symm
  have n76' : ¬ b6 = b7 := fun e => n76 e.symm
  simp only [go_sem, xQ, ↓reduceIte, xA, xM, xL, xT, xE, xN, xP, xR, xS, hA8, hA9, ints_zeros', ns, ns', n7s, n7s', n76, n76']
  refine copB_all (m := t.coeffs.length) (c := t.coeffs.length) (cs := ints (List.replicate t.coeffs.length 0)) (xs := ints t.coeffs) el46 tk3 (by simp only [go_sem, xQ, ↓reduceIte, xA, xM, xL, xT, xE, xN, xP, xR, xS, n7s', ns]) (by simp [ints]) (src_slI _ t.coeffs) (ints_one _) ?_
  simp only [go_sem, xQ, ↓reduceIte, xA, xM, xL, xT, xE, xN, xP, xR, xS, hA8, hA9, ns, ns', n7s, n7s', n76, n76']
  have hp := plusC_len m t.coeffs x.coeffs
  refine SemC.loopK mixed x.coeffs.length (fun k ρ σ' ds => (ds = [] ∧ ρ 2 = int m ∧ ρ 6 = .v (.pointer (some ⟨b6, 0, none⟩)) ∧ ρ 7 = .v (.pointer (some ⟨b7, 0, none⟩)) ∧ ρ 28 = slI x.coeffs ∧ ρ 29 = int x.coeffs.length ∧ ρ 30 = int k ∧ σ' b6 = some (.row [.v (.slice none 0 0), int 0] 2 1) ∧ σ' b7 = some (.row [.own bs 1 0 t.coeffs.length, int (plusT t x m).const] 2 1) ∧ σ' bs = some (.row (ints (mix t.coeffs (plusC m t.coeffs x.coeffs) k)) 1 t.coeffs.length)) ∧ Drop σ' σ) (by kernel_rfl)
    ⟨by simp only [go_sem, xQ, ↓reduceIte, xA, xM, xL, xT, xE, xN, xP, xR, xS, n7s, n7s', n76, n76', ns, ns', mix_zero, plusT], by repeat (first | exact Drop.refl _ | assumption | refine Drop.upd ?_ (by assumption))⟩ ?_
  rintro k ρ σ' ds hk ⟨⟨rfl, h2, h6, h7, h28, h29, h30, hs6, hs7, hss⟩, hD⟩
  have hml := mix_len hp (k := k) (by omega)
  rcases get_or_end x.coeffs k hk with ⟨c, hc, hlt, hd⟩ | hk
  · obtain ⟨a, ha⟩ : ∃ a, t.coeffs[k]? = some a := ⟨t.coeffs[k]'(by omega), List.getElem?_eq_getElem _⟩
    have hg := mix_get hp (k := k) (by omega)
    rw [ha] at hg
    have hltt : k < t.coeffs.length := by omega
    have hle1 : k + 1 ≤ t.coeffs.length := by omega
    have hset := mix_set hp hltt (plusC_get m t.coeffs x.coeffs k a c ha hc)
    have hput := fun y => ints_put' (l := mix t.coeffs (plusC m t.coeffs x.coeffs) k) (k := k) (x := y) (by omega)
    simp only [go_sem, xQ, ↓reduceIte, xA, xM, xL, xT, xE, xN, xP, xR, xS, h2, h6, h7, h28, h29, h30, hs6, hs7, hss, hlt, hc, hg, hltt, hle1, hml, ints_len, ↓hput, hset, n7s, n7s', n76, n76', ns, ns']
    exact ⟨by rw [wrap_succ _ (by omega)], hD.upd hbs⟩
  · subst hk
    have hend : mix t.coeffs (plusC m t.coeffs x.coeffs) x.coeffs.length = (plusT t x m).coeffs := by
      rw [mix, ← plusC_past m t.coeffs x.coeffs x.coeffs.length (Nat.le_refl _), List.take_append_drop]
      rfl
    rw [hend] at hss
    simp only [go_sem, xQ, ↓reduceIte, xA, xM, xL, xT, xE, xN, xP, xR, xS, h2, h6, h7, h28, h29, h30, hs6, hs7, hss, Nat.lt_irrefl, n7s, n7s', n76, n76', ns, ns']
    have hlen : (plusT t x m).coeffs.length = t.coeffs.length := plusC_len m t.coeffs x.coeffs
    rw [hlen]
    refine ⟨.agg (.cons (frz_own (c := t.coeffs.length) (by rw [upd_ne _ _ _ _ ns]; exact hss) (by rw [ints_len, hlen, Nat.mul_one]) hbs) (.cons (.refl _) .nil)), hD.upd hb6⟩
theorem f157 (n : Nat) (c : Int) (hn : Fits n) : PCalls Tryz.prog Γ 157 [int n, int c] (tmA ⟨List.replicate n 0, c⟩) := by
  have hA8 : (8 : Int) * n ≤ 140737488355328 := by omega
  have hA9 : (n : Int) ≤ 9223372036854775807 := by omega
  refine pcalls (ok157 Γ) fun σ => ?_
  simp only [go_sem, xQ, ↓reduceIte, xA, xM, xL, xT, xE, xN, xP, xR, xS, Tryz.f157]
  intro b4 hb4
  simp only [go_sem, xQ, ↓reduceIte, xA, xM, xL, xT, xE, xN, xP, xR, xS, hA8, hA9, ints_zeros']
  intro bs hbs
  obtain ⟨ns, hbs⟩ := un hbs
  have ns' : ¬ b4 = bs := fun e => ns e.symm
  simp only [go_sem, xQ, ↓reduceIte, xA, xM, xL, xT, xE, xN, xP, xR, xS, hA8, hA9, ints_zeros', ns, ns', List.length_replicate]
  exact ⟨.agg (.cons (frz_own (c := n) (by simp only [upd, ns, ns', if_true, if_false, ints_zeros', Int.toNat_natCast]) (by simp [ints_len]) hbs) (.cons (.refl _) .nil)), by repeat (first | exact Drop.refl _ | assumption | refine Drop.upd ?_ (by assumption))⟩
def largeE (t : Tm) : Int := whenE (!decide (numbersE t = 0)) 4
theorem f159 (t : Tm) (hl : Fits t.coeffs.length) : PCalls Tryz.prog Γ 159 [tmA t] (int (largeE t)) := by
  refine pcalls (ok159 Γ) fun σ => ?_
  simp only [go_sem, xQ, ↓reduceIte, xA, xM, xL, xT, xE, xN, xP, xR, xS, Tryz.f159]
  refine callB_use (f173 t hl) rfl ?_
  simp only [go_sem, xQ, ↓reduceIte, xA, xM, xL, xT, xE, xN, xP, xR, xS]
  refine callB_use (f144 _ _) rfl ?_
  simp only [go_sem, xQ, ↓reduceIte, xA, xM, xL, xT, xE, xN, xP, xR, xS]
  exact retP_eq rfl
def oppT (t : Tm) (n : Int) : Tm := plusT ⟨List.replicate t.coeffs.length 0, n⟩ t (-1)
theorem f169 (t : Tm) (n : Int) (hl : Fits t.coeffs.length) : PCalls Tryz.prog Γ 169 [tmA t, int n] (tmA (oppT t n)) := by
  refine pcalls (ok169 Γ) fun σ => ?_
  simp only [go_sem, xQ, ↓reduceIte, xA, xM, xL, xT, xE, xN, xP, xR, xS, Tryz.f169]
  intro b hb
  simp only [go_sem, xQ, ↓reduceIte, xA, xM, xL, xT, xE, xN, xP, xR, xS]
  refine dcallB_use (f157 t.coeffs.length n hl) rfl ?_
  simp only [go_sem, xQ, ↓reduceIte, xA, xM, xL, xT, xE, xN, xP, xR, xS]
  refine callB_use (f158 ⟨List.replicate t.coeffs.length 0, n⟩ t (-1) (by simpa using hl) (by simp)) rfl ?_
  simp only [go_sem, xQ, ↓reduceIte, xA, xM, xL, xT, xE, xN, xP, xR, xS]
  exact retP_drop (by repeat (first | exact Drop.refl _ | assumption | refine Drop.upd ?_ (by assumption))) (rfl)
def lessT (t : Tm) (n : Int) : Tm := plusT t ⟨[], n⟩ (-1)
theorem f253 (t : Tm) (n : Int) (hl : Fits t.coeffs.length) : PCalls Tryz.prog Γ 253 [tmA t, int n] (tmA (lessT t n)) := by
  refine pcalls (ok253 Γ) fun σ => ?_
  simp only [go_sem, xQ, ↓reduceIte, xA, xM, xL, xT, xE, xN, xP, xR, xS, Tryz.f253]
  intro b hb
  simp only [go_sem, xQ, ↓reduceIte, xA, xM, xL, xT, xE, xN, xP, xR, xS]
  refine callB_fz (f158 t ⟨[], n⟩ (-1) hl (Nat.zero_le _)) (.cons (.refl _) (.cons (.agg (.cons .nil (.cons (.refl _) .nil))) (.cons (.refl _) .nil))) ?_
  simp only [go_sem, xQ, ↓reduceIte, xA, xM, xL, xT, xE, xN, xP, xR, xS]
  exact retP_drop (by repeat (first | exact Drop.refl _ | assumption | refine Drop.upd ?_ (by assumption))) (rfl)
end Go.AL
