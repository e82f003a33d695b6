/- Holds of the program. -/
import Derived.Test.YtjimmpldofoimaaGreatDoorAm
import Derived.Test.YtjimmpldofoimaaGreatDoorAn
import Derived.Test.YtjimmpldofoimaaGreatDoorWb
import Derived.Test.YtjimmpldofoimaaGreatDoorXb
open Nat renaming reduceEqDiff → xQ, reduceAdd → xA, reduceMul → xM, reduceLeDiff → xL
open Int renaming reduceLT → xT, reduceLE → xE, reduceToNat → xN
open Go.AL renaming retPost_one → xP, retPost_oneN → xR, ers_at' → xS
set_option linter.unusedVariables false
set_option linter.unusedSimpArgs false
namespace Go.AL
open Go.Proofs
variable {Γ : Glob}
attribute [local irreducible] codeW opsW dopsW
def bv (b : Bool) : AV := .v (.bool b)
def slB (l : List Bool) : AV := .sl (l.map bv) l.length
theorem bv_get {l : List Bool} {k : Nat} {b : Bool} (h : l[k]? = some b) : (l.map bv)[k]? = some (.v (.bool b)) := by rw [List.getElem?_map, h]; rfl
attribute [go_sem] slB
def idxX {α : Type} (g : α → Bool) : Nat → List α → Int
 | _, [] => -1
 | k, x :: l => if g x then (k : Int) else idxX g (k + 1) l
theorem idxX_any {α : Type} (g : α → Bool) (k : Nat) (l : List α) : decide (0 ≤ idxX g k l) = l.any g := by
 induction l generalizing k with
 | nil => simp [idxX]
 | cons x l ih =>
  rw [List.any_cons, idxX]
  cases h : g x with
  | true => simp
  | false => simpa using ih (k + 1)
theorem f321 (l : List Bool) (hl : Fits l.length) (v : Bool) : PCalls Tryz.prog Γ 321 [slB l, .v (.bool v)] (int (idxX (fun b => v == b) 0 l)) := by
 refine pcalls (ok321 Γ) fun σ => ?_
 simp only [go_sem, xQ, ↓reduceIte, xA, xM, xL, xT, xE, xN, xP, xR, xS, Tryz.f321]
 refine SemC.loopK mixed l.length (fun k ρ σ' ds => σ' = σ ∧ ds = [] ∧ ρ 0 = slB l ∧ ρ 1 = .v (.bool v) ∧ ρ 7 = int l.length ∧ ρ 8 = int k ∧ idxX (fun b => v == b) 0 l = idxX (fun b => v == b) k (l.drop k)) (by kernel_rfl) ⟨rfl, rfl, rfl, rfl, rfl, rfl, rfl⟩ ?_
 rintro k ρ σ' ds hk ⟨rfl, rfl, h0, h1, h7, h8, hz⟩
 rcases get_or_end l k hk with ⟨x, hx, hlt, hd⟩ | hk
 ·rw [hd, idxX] at hz
  cases hb : (v == x) with
  | true =>
   rw [hb] at hz
   simp only [go_sem, xQ, ↓reduceIte, xA, xM, xL, xT, xE, xN, xP, xR, xS, h0, h1, h7, h8, hlt, ↓bv_get hx, hb]
   exact retP_eq (by rw [hz]; rfl)
  | false =>
   rw [hb] at hz
   simp only [go_sem, xQ, ↓reduceIte, xA, xM, xL, xT, xE, xN, xP, xR, xS, h0, h1, h7, h8, hlt, ↓bv_get hx, hb]
   exact ⟨by rw [wrap_succ _ (by omega)], hz⟩
 ·subst hk
  rw [List.drop_length, idxX] at hz
  simp only [go_sem, xQ, ↓reduceIte, xA, xM, xL, xT, xE, xN, xP, xR, xS, h0, h1, h7, h8, Nat.lt_irrefl]
  exact retP_eq (by rw [hz])
theorem f319 (l : List Bool) (hl : Fits l.length) (v : Bool) : PCalls Tryz.prog Γ 319 [slB l, .v (.bool v)] (.v (.bool (l.any fun b => v == b))) := by
 refine pcalls (ok319 Γ) fun σ => ?_
 simp only [go_sem, xQ, ↓reduceIte, xA, xM, xL, xT, xE, xN, xP, xR, xS, Tryz.f319]
 refine callB_use (f321 l hl v) rfl ?_
 simp only [go_sem, xQ, ↓reduceIte, xA, xM, xL, xT, xE, xN, xP, xR, xS]
 exact retP_eq (by rw [idxX_any])
theorem f317 (b : Bool) (l : List Bool) : PCalls Tryz.prog Γ 317 [slB (b :: l)] (.v (.bool (!b))) := by
 have h1 : (0 : Int) < ((l.length + 1 : Nat) : Int) := by omega
 refine pcalls (ok317 Γ) fun σ => ?_
 simp only [go_sem, xQ, ↓reduceIte, xA, xM, xL, xT, xE, xN, xP, xR, xS, Tryz.f317, h1, List.length_cons, List.map_cons, bv, List.getElem?_cons_zero]
theorem f318 (l : List Bool) (hl : Fits l.length) : PCalls Tryz.prog Γ 318 [slB l] (.v (.bool (!(l.any fun b => false == b)))) := by
 refine pcalls (ok318 Γ) fun σ => ?_
 simp only [go_sem, xQ, ↓reduceIte, xA, xM, xL, xT, xE, xN, xP, xR, xS, Tryz.f318]
 refine callB_use (f319 l hl false) rfl ?_
 simp only [go_sem, xQ, ↓reduceIte, xA, xM, xL, xT, xE, xN, xP, xR, xS]
theorem f320 (l : List Bool) (hl : Fits l.length) : PCalls Tryz.prog Γ 320 [slB l] (.v (.bool (l.any fun b => true == b))) := by
 refine pcalls (ok320 Γ) fun σ => ?_
 simp only [go_sem, xQ, ↓reduceIte, xA, xM, xL, xT, xE, xN, xP, xR, xS, Tryz.f320]
 refine callB_use (f319 l hl true) rfl ?_
 simp only [go_sem, xQ, ↓reduceIte, xA, xM, xL, xT, xE, xN, xP, xR, xS]
structure NodeOk (n : Nd) (i : Nat) (vars : Int) : Prop where
 lo : 0 ≤ n.kind
 hi : n.kind ≤ 4
 term : n.kind ≤ 1 → checkTermE n.term vars = 0 ∧ (n.term.coeffs.length : Int) = vars ∧ n.kids = []
 form : 2 ≤ n.kind → n.term = ⟨[], 0⟩ ∧ n.kids.length ≤ 200 ∧ (n.kind = 2 → n.kids.length = 1) ∧ ∀ k ∈ n.kids, 0 ≤ k ∧ k < i
theorem term_len {t : Tm} {n : Int} (h : checkTermE t n = 0) : (t.coeffs.length : Int) = n := by
 have h1 := (whenE_zero (by decide)).1 ((firstE_zero _).1 h (whenE (decide (¬ (t.coeffs.length : Int) = n)) 2) (by simp))
 simpa using h1
theorem node_ok {n : Nd} {i : Nat} {vars : Int} (h : nodeE n i vars = 0) : NodeOk n i vars := by
 unfold nodeE at h
 split at h
 ·cases h
 ·rename_i hk
  split at h
  ·rename_i h1
   have h2 := (firstE_zero _).1 h
   have h3 := h2 (checkTermE n.term vars) (by simp)
   have h4 := (whenE_zero (by decide)).1 (h2 (whenE (decide ((0 : Int) < n.kids.length)) 2) (by simp))
   refine ⟨by omega, by omega, fun _ => ⟨h3, term_len h3, ?_⟩, fun h => by omega⟩
   simp at h4
   exact h4
  ·rename_i h1
   have h2 := (firstE_zero _).1 h
   have h3 := (firstE_zero _).1 (h2 (formE n) (by simp))
   have a := (whenE_zero (by decide)).1 (h3 (whenE (decide ((0 : Int) < n.term.coeffs.length) || !decide (n.term.const = 0)) 1) (by simp))
   have b := (whenE_zero (by decide)).1 (h3 (whenE (decide ((200 : Int) < n.kids.length)) 5) (by simp))
   have c := (whenE_zero (by decide)).1 (h3 (whenE (decide (n.kind = 2) && !decide ((n.kids.length : Int) = 1)) 2) (by simp))
   have d := (firstE_zero _).1 (h2 (firstE (n.kids.map fun k => earlierE k i)) (by simp))
   refine ⟨by omega, by omega, fun h => by omega, fun _ => ⟨?_, ?_, fun h2 => ?_, fun k hk => ?_⟩⟩
   ·simp at a
    obtain ⟨nk, ⟨tc, tk⟩, nn⟩ := n
    simp only at a ⊢
    rw [a.1, a.2]
   ·simp at b; omega
   ·simp [h2] at c; omega
   ·have := d _ (List.mem_map_of_mem hk)
    have := (whenE_zero (by decide)).1 this
    simp at this
    omega
theorem nodes_zero {vars : Int} : ∀ (l : List Nd) (k : Nat), nodesE vars k l = 0 → ∀ i n, l[i]? = some n → nodeE n ((k + i : Nat) : Int) vars = 0
 | [], _, _, _, _, h => by simp at h
 | n :: l, k, h, i, m, hm => by
  rw [nodesE] at h
  split at h
  ·rename_i h1
   cases i with
   | zero => simp at hm; subst hm; exact h1
   | succ i =>
    have := nodes_zero l (k + 1) h i m (by simpa using hm)
    rwa [show k + 1 + i = k + (i + 1) by omega] at this
  ·rename_i h1
   exact absurd h h1
theorem check_ok {f : Fm} (h : checkE f = 0) : f.nodes ≠ [] ∧ f.nodes.length ≤ 200 ∧ 0 ≤ f.vars ∧ f.vars ≤ 8 ∧ ∀ i n, f.nodes[i]? = some n → NodeOk n i f.vars := by
 unfold checkE at h
 split at h
 ·rename_i h0
  have h1 := (firstE_zero _).1 h0
  have a := h1 (withinE f.vars 0 8) (by simp)
  have b := (whenE_zero (by decide)).1 (h1 (whenE (decide ((f.nodes.length : Int) = 0)) 10) (by simp))
  have c := (whenE_zero (by decide)).1 (h1 (whenE (decide ((200 : Int) < (f.nodes.length : Int))) 5) (by simp))
  simp at b c
  unfold withinE at a
  split at a
  ·cases a
  ·refine ⟨b, by omega, by omega, by omega, fun i n hn => ?_⟩
   have := nodes_zero f.nodes 0 h i n hn
   rw [Nat.zero_add] at this
   exact node_ok this
 ·rename_i h0
  exact absurd h h0
end Go.AL

/- Holds. -/
set_option linter.unusedVariables false
set_option linter.unusedSimpArgs false
namespace Go.AL
open Go.Proofs
variable {Γ : Glob}
attribute [local irreducible] codeW opsW dopsW
end Go.AL

/- Own copies of nodes; terms added; Opposite. -/
set_option linter.unusedVariables false
set_option linter.unusedSimpArgs false
namespace Go.AL
open Go.Proofs
variable {Γ : Glob}
attribute [local irreducible] codeW opsW dopsW
theorem Grow.neS {σ0 σ : Sig} {s n b s' c' : Nat} {a : AV} {cs cs' : List AV} (h : Grow σ0 σ s a cs n) (hb : σ b = some (.row cs' s' c')) (hs : s' ≠ s) : ∀ s1 o m, a ≠ .own b s1 o m := fun s1 o m e => by
 rcases h with ⟨h, _⟩ | ⟨b', c, h0, h1, h2, h3⟩
 ·rcases h with h | h <;> rw [h] at e <;> cases e
 ·rw [h0] at e
  cases e
  rw [hb] at h2
  cases h2
  exact hs rfl
theorem f193 (l : List Int) (hl : Fits l.length) : PCalls Tryz.prog Γ 193 [slI l] (slI l) := by
 by_cases h : l = []
 ·subst h
  refine pcalls_nil ?_ (fun a c => ?_)
  ·refine pcalls (ok193 Γ) fun σ => ?_
   simp only [go_sem, xQ, ↓reduceIte, xA, xM, xL, xT, xE, xN, xP, xR, xS, Tryz.f193]
   exact ⟨.nil, Drop.refl _⟩
  ·refine pcalls (ok193 Γ) fun σ => ?_
   simp only [go_sem, xQ, ↓reduceIte, xA, xM, xL, xT, xE, xN, xP, xR, xS, Tryz.f193]
   refine appB_weak weak_empty (appB_pure (appT_sl el46 tk3 by3 el46 (by decide) rfl (by decide)) (.inr rfl) (src_slI _ []) (by simp [ints]) (by omega) ?_)
   simp only [go_sem, xQ, ↓reduceIte, xA, xM, xL, xT, xE, xN, xP, xR, xS]
 ·have h' : ints l ≠ [] := by simpa [ints] using h
  refine pcalls (ok193 Γ) fun σ => ?_
  simp only [go_sem, xQ, ↓reduceIte, xA, xM, xL, xT, xE, xN, xP, xR, xS, Tryz.f193, h']
  refine appB_pure (appT_sl el46 tk3 by3 el46 (by decide) rfl (by decide)) (.inr rfl) (src_slI _ l) (by simp [ints]) (by omega) ?_
  simp only [go_sem, xQ, ↓reduceIte, xA, xM, xL, xT, xE, xN, xP, xR, xS]
theorem f151 (t : Tm) (hl : Fits t.coeffs.length) : PCalls Tryz.prog Γ 151 [tmA t] (tmA t) := by
 refine pcalls (ok151 Γ) fun σ => ?_
 simp only [go_sem, xQ, ↓reduceIte, xA, xM, xL, xT, xE, xN, xP, xR, xS, Tryz.f151]
 intro b hb
 simp only [go_sem, xQ, ↓reduceIte, xA, xM, xL, xT, xE, xN, xP, xR, xS]
 refine callB_use (f193 t.coeffs hl) rfl ?_
 simp only [go_sem, xQ, ↓reduceIte, xA, xM, xL, xT, xE, xN, xP, xR, xS]
 exact retP_drop (by repeat (first | exact Drop.refl _ | assumption | refine Drop.upd ?_ (by assumption))) (rfl)
theorem f227 (k n : Int) : PCalls Tryz.prog Γ 227 [int k, .pp [int n] 0] (int (IntKind.i64.wrap (k + n))) := by
 refine pcalls (ok227 Γ) fun σ => ?_
 simp only [go_sem, xQ, ↓reduceIte, xA, xM, xL, xT, xE, xN, xP, xR, xS, Tryz.f227]
theorem f226 (l : List Int) (hl : Fits l.length) (fv : AV) (g : Int → Int) (hg : ∀ x ∈ l, DCall Tryz.prog Γ fv [int x] (int (g x))) : PCalls Tryz.prog Γ 226 [slI l, fv] (slI (l.map g)) := by
 refine pcalls (ok226 Γ) fun σ => ?_
 simp only [go_sem, xQ, ↓reduceIte, xA, xM, xL, xT, xE, xN, xP, xR, xS, Tryz.f226]
 refine SemC.loopK mixed l.length (fun k ρ σ' ds => Drop σ' σ ∧ ds = [] ∧ ρ 1 = fv ∧ ρ 8 = slI l ∧ ρ 9 = int l.length ∧ ρ 10 = int k ∧ Grow σ σ' 1 (ρ 5) (ints ((l.take k).map g)) k) (by kernel_rfl) ⟨.refl _, rfl, rfl, rfl, rfl, rfl, .nil _ _ _⟩ ?_
 rintro k ρ σ' ds hk ⟨hD, rfl, h1, h8, h9, h10, hG⟩
 rcases get_or_end l k hk with ⟨x, hx, hlt, hd⟩ | rfl
 ·simp only [go_sem, xQ, ↓reduceIte, xA, xM, xL, xT, xE, xN, xP, xR, xS, h1, h8, h9, h10, hlt, hx]
  refine callB_d (hg x (mem_of_get hx)) ?_
  simp only [go_sem, xQ, ↓reduceIte, xA, xM, xL, xT, xE, xN, xP, xR, xS]
  refine appB_sl (appT_sl el46 tk3 by3 el46 (by decide) rfl (by decide)) hD hG rfl rfl (by omega) (fun a' σ2 hD2 hO hG2 => ?_)
  simp only [go_sem, xQ, ↓reduceIte, xA, xM, xL, xT, xE, xN, xP, xR, xS, h1, h8, h9, h10]
  refine ⟨hD2, by rw [wrap_succ _ (by omega)], ?_⟩
  rw [take_succ hx]
  simpa [ints, int] using hG2
 ·simp only [go_sem, xQ, ↓reduceIte, xA, xM, xL, xT, xE, xN, xP, xR, xS, h8, h9, h10, Nat.lt_irrefl]
  have := hG.retP hD
  simpa [slI] using this
def shiftN (n : Int) (x : Nd) : Nd := ⟨x.kind, x.term, x.kids.map fun k => IntKind.i64.wrap (k + n)⟩
theorem f156 (x : Nd) (n : Int) (hx : NdFit x) : PCalls Tryz.prog Γ 156 [ndA x, int n] (ndA (shiftN n x)) := by
 have ht := hx.1
 have hk := hx.2
 refine pcalls (ok156 Γ) fun σ => ?_
 simp only [go_sem, xQ, ↓reduceIte, xA, xM, xL, xT, xE, xN, xP, xR, xS, Tryz.f156]
 intro b hb
 simp only [go_sem, xQ, ↓reduceIte, xA, xM, xL, xT, xE, xN, xP, xR, xS]
 refine dcallB_use (f151 x.term ht) rfl ?_
 simp only [go_sem, xQ, ↓reduceIte, xA, xM, xL, xT, xE, xN, xP, xR, xS]
 refine dcallB_use (f226 x.kids hk _ (fun k => IntKind.i64.wrap (k + n)) (fun k _ => dcall_of (f227 k n) rfl)) rfl ?_
 simp only [go_sem, xQ, ↓reduceIte, xA, xM, xL, xT, xE, xN, xP, xR, xS]
 exact retP_drop (by repeat (first | exact Drop.refl _ | assumption | refine Drop.upd ?_ (by assumption))) (by simp [shiftN, ndA, ndC, slI, int])
theorem f165 (x : Nd) (hx : NdFit x) : PCalls Tryz.prog Γ 165 [ndA x] (ndA (shiftN 0 x)) := by
 refine pcalls (ok165 Γ) fun σ => ?_
 simp only [go_sem, xQ, ↓reduceIte, xA, xM, xL, xT, xE, xN, xP, xR, xS, Tryz.f165]
 intro b hb
 simp only [go_sem, xQ, ↓reduceIte, xA, xM, xL, xT, xE, xN, xP, xR, xS]
 refine callB_use (f156 x 0 hx) rfl ?_
 simp only [go_sem, xQ, ↓reduceIte, xA, xM, xL, xT, xE, xN, xP, xR, xS]
 exact retP_drop (by repeat (first | exact Drop.refl _ | assumption | refine Drop.upd ?_ (by assumption))) (rfl)
/-! ### Terms added -/
def plusC (m : Int) : List Int → List Int → List Int
 | a :: bs, c :: cs => IntKind.i64.wrap (a + IntKind.i64.wrap (m * c)) :: plusC m bs cs
 | bs, [] => bs
 | [], _ => []
theorem plusC_nil (m : Int) (l : List Int) : plusC m l [] = l := by cases l <;> rfl
theorem plusC_len (m : Int) : ∀ (l cs : List Int), (plusC m l cs).length = l.length
 | [], [] => rfl
 | [], _ :: _ => rfl
 | _ :: _, [] => rfl
 | a :: l, c :: cs => by rw [plusC, List.length_cons, List.length_cons, plusC_len m l cs]
theorem plusC_get (m : Int) : ∀ (l cs : List Int) (k : Nat) (a c : Int), l[k]? = some a → cs[k]? = some c → (plusC m l cs)[k]? = some (IntKind.i64.wrap (a + IntKind.i64.wrap (m * c)))
 | [], _, _, _, _, h, _ => by simp at h
 | _ :: _, [], _, _, _, _, h => by simp at h
 | x :: l, y :: cs, 0, a, c, h, k => by simp at h k; subst h; subst k; rfl
 | x :: l, y :: cs, k + 1, a, c, h, h' => by
  rw [plusC, List.getElem?_cons_succ]
  exact plusC_get m l cs k a c (by simpa using h) (by simpa using h')
theorem plusC_past (m : Int) : ∀ (l cs : List Int) (k : Nat), cs.length ≤ k → (plusC m l cs).drop k = l.drop k
 | l, [], k, _ => by rw [plusC_nil]
 | [], c :: cs, k, _ => rfl
 | a :: l, c :: cs, 0, h => by simp at h
 | a :: l, c :: cs, k + 1, h => by
  rw [plusC, List.drop_succ_cons, List.drop_succ_cons]
  exact plusC_past m l cs k (by simpa using h)
def mix (l l' : List Int) (k : Nat) : List Int := l'.take k ++ l.drop k
theorem mix_zero (l l' : List Int) : mix l l' 0 = l := by simp [mix]
theorem mix_len {l l' : List Int} (h : l'.length = l.length) {k : Nat} (hk : k ≤ l.length) : (mix l l' k).length = l.length := by simp [mix]; omega
theorem mix_get {l l' : List Int} (h : l'.length = l.length) {k : Nat} (hk : k ≤ l.length) : (mix l l' k)[k]? = l[k]? := by
 have hm : (l'.take k).length = k := by rw [List.length_take, h]; exact Nat.min_eq_left hk
 rw [mix, List.getElem?_append_right (by omega), hm, Nat.sub_self, List.getElem?_drop, Nat.add_zero]
theorem mix_set {l l' : List Int} (h : l'.length = l.length) {k : Nat} {x : Int} (hk : k < l.length) (hx : l'[k]? = some x) : (mix l l' k).set k x = mix l l' (k + 1) := by
 have hl : (l'.take k).length = k := by simp; omega
 rw [mix, mix, take_succ hx, List.set_append_right _ _ (by omega), hl, Nat.sub_self]
 obtain ⟨y, hy, hd⟩ : ∃ y, l[k]? = some y ∧ l.drop k = y :: l.drop (k + 1) := ⟨l[k], List.getElem?_eq_getElem hk, by rw [List.drop_eq_getElem_cons hk]⟩
 rw [hd, List.set_cons_zero, List.append_assoc, List.singleton_append]
theorem ints_put' {l : List Int} {k : Nat} {x : Int} (h : k < l.length) : putL (ints l) k [AV.v (.int .i64 x)] = ints (l.set k x) := by
 rw [putL, ints, ints, List.map_set, List.set_eq_take_append_cons_drop, if_pos (by simpa using h)]
 simp [int]
theorem ints_zeros' (n : Nat) : (List.replicate n [AV.v (.int .i64 0)]).flatten = ints (List.replicate n 0) := by
 induction n with
 | zero => rfl
 | succ n ih => rw [List.replicate_succ, List.replicate_succ, List.flatten_cons, ih]; rfl
theorem ints_one (l : List Int) : (ints l).all AV.one = true := by
 induction l with
 | nil => rfl
 | cons t l ih => rw [ints, List.map_cons, List.all_cons]; exact ih
theorem frz_own {σ : Sig} {b s c n : Nat} {cs : List AV} (h : σ b = some (.row cs s c)) (hn : cs.length = n * s) {σ' : Sig} (h' : σ' b = none) : Fz σ σ' (.own b s 0 n) (.sl cs n) := by
 refine .own h h' ?_
 have : (cs.drop (0 * s)).take (n * s) = cs := by simp [← hn]
 rw [this]
 exact .refl cs
def plusT (t x : Tm) (m : Int) : Tm := ⟨plusC m t.coeffs x.coeffs, IntKind.i64.wrap (t.const + IntKind.i64.wrap (m * x.const))⟩
theorem f158 (t x : Tm) (m : Int) (hl : Fits t.coeffs.length) (hx : x.coeffs.length ≤ t.coeffs.length) : PCalls Tryz.prog Γ 158 [tmA t, tmA x, int m] (tmA (plusT t x m)) := by
 have hA8 : (8 : Int) * t.coeffs.length ≤ 140737488355328 := by omega
 have hA9 : (t.coeffs.length : Int) ≤ 9223372036854775807 := by omega
 refine pcalls (ok158 Γ) fun σ => ?_
 simp only [go_sem, xQ, ↓reduceIte, xA, xM, xL, xT, xE, xN, xP, xR, xS, Tryz.f158]
 intro b6 hb6
 simp only [go_sem, xQ, ↓reduceIte, xA, xM, xL, xT, xE, xN, xP, xR, xS, hA8, hA9, ints_zeros']
 intro bs hbs
 obtain ⟨ns, hbs⟩ := un hbs
 have ns' : ¬ b6 = bs := fun e => ns e.symm
 simp only [go_sem, xQ, ↓reduceIte, xA, xM, xL, xT, xE, xN, xP, xR, xS, hA8, hA9, ints_zeros', ns, ns']
 intro b7 hb7
 obtain ⟨n7s, hb7⟩ := un hb7
 obtain ⟨n76, hb7⟩ := un hb7
 have n7s' : ¬ bs = b7 := fun e => n7s e.symm
 have n76' : ¬ b6 = b7 := fun e => n76 e.symm
 simp only [go_sem, xQ, ↓reduceIte, xA, xM, xL, xT, xE, xN, xP, xR, xS, hA8, hA9, ints_zeros', ns, ns', n7s, n7s', n76, n76']
 refine copB_all (m := t.coeffs.length) (c := t.coeffs.length) (cs := ints (List.replicate t.coeffs.length 0)) (xs := ints t.coeffs) el46 tk3 (by simp only [go_sem, xQ, ↓reduceIte, xA, xM, xL, xT, xE, xN, xP, xR, xS, n7s', ns]) (by simp [ints]) (src_slI _ t.coeffs) (ints_one _) ?_
 simp only [go_sem, xQ, ↓reduceIte, xA, xM, xL, xT, xE, xN, xP, xR, xS, hA8, hA9, ns, ns', n7s, n7s', n76, n76']
 have hp := plusC_len m t.coeffs x.coeffs
 refine SemC.loopK mixed x.coeffs.length (fun k ρ σ' ds => (ds = [] ∧ ρ 2 = int m ∧ ρ 6 = .v (.pointer (some ⟨b6, 0, none⟩)) ∧ ρ 7 = .v (.pointer (some ⟨b7, 0, none⟩)) ∧ ρ 28 = slI x.coeffs ∧ ρ 29 = int x.coeffs.length ∧ ρ 30 = int k ∧ σ' b6 = some (.row [.v (.slice none 0 0), int 0] 2 1) ∧ σ' b7 = some (.row [.own bs 1 0 t.coeffs.length, int (plusT t x m).const] 2 1) ∧ σ' bs = some (.row (ints (mix t.coeffs (plusC m t.coeffs x.coeffs) k)) 1 t.coeffs.length)) ∧ Drop σ' σ) (by kernel_rfl)
  ⟨by simp only [go_sem, xQ, ↓reduceIte, xA, xM, xL, xT, xE, xN, xP, xR, xS, n7s, n7s', n76, n76', ns, ns', mix_zero, plusT], by repeat (first | exact Drop.refl _ | assumption | refine Drop.upd ?_ (by assumption))⟩ ?_
 rintro k ρ σ' ds hk ⟨⟨rfl, h2, h6, h7, h28, h29, h30, hs6, hs7, hss⟩, hD⟩
 have hml := mix_len hp (k := k) (by omega)
 rcases get_or_end x.coeffs k hk with ⟨c, hc, hlt, hd⟩ | hk
 ·obtain ⟨a, ha⟩ : ∃ a, t.coeffs[k]? = some a := ⟨t.coeffs[k]'(by omega), List.getElem?_eq_getElem _⟩
  have hg := mix_get hp (k := k) (by omega)
  rw [ha] at hg
  have hltt : k < t.coeffs.length := by omega
  have hle1 : k + 1 ≤ t.coeffs.length := by omega
  have hset := mix_set hp hltt (plusC_get m t.coeffs x.coeffs k a c ha hc)
  have hput := fun y => ints_put' (l := mix t.coeffs (plusC m t.coeffs x.coeffs) k) (k := k) (x := y) (by omega)
  simp only [go_sem, xQ, ↓reduceIte, xA, xM, xL, xT, xE, xN, xP, xR, xS, h2, h6, h7, h28, h29, h30, hs6, hs7, hss, hlt, hc, hg, hltt, hle1, hml, ints_len, ↓hput, hset, n7s, n7s', n76, n76', ns, ns']
  exact ⟨by rw [wrap_succ _ (by omega)], hD.upd hbs⟩
 ·subst hk
  have hend : mix t.coeffs (plusC m t.coeffs x.coeffs) x.coeffs.length = (plusT t x m).coeffs := by
   rw [mix, ← plusC_past m t.coeffs x.coeffs x.coeffs.length (Nat.le_refl _), List.take_append_drop]
   rfl
  rw [hend] at hss
  simp only [go_sem, xQ, ↓reduceIte, xA, xM, xL, xT, xE, xN, xP, xR, xS, h2, h6, h7, h28, h29, h30, hs6, hs7, hss, Nat.lt_irrefl, n7s, n7s', n76, n76', ns, ns']
  have hlen : (plusT t x m).coeffs.length = t.coeffs.length := plusC_len m t.coeffs x.coeffs
  rw [hlen]
  refine ⟨.agg (.cons (frz_own (c := t.coeffs.length) (by rw [upd_ne _ _ _ _ ns]; exact hss) (by rw [ints_len, hlen, Nat.mul_one]) hbs) (.cons (.refl _) .nil)), hD.upd hb6⟩
theorem f157 (n : Nat) (c : Int) (hn : Fits n) : PCalls Tryz.prog Γ 157 [int n, int c] (tmA ⟨List.replicate n 0, c⟩) := by
 have hA8 : (8 : Int) * n ≤ 140737488355328 := by omega
 have hA9 : (n : Int) ≤ 9223372036854775807 := by omega
 refine pcalls (ok157 Γ) fun σ => ?_
 simp only [go_sem, xQ, ↓reduceIte, xA, xM, xL, xT, xE, xN, xP, xR, xS, Tryz.f157]
 intro b4 hb4
 simp only [go_sem, xQ, ↓reduceIte, xA, xM, xL, xT, xE, xN, xP, xR, xS, hA8, hA9, ints_zeros']
 intro bs hbs
 obtain ⟨ns, hbs⟩ := un hbs
 have ns' : ¬ b4 = bs := fun e => ns e.symm
 simp only [go_sem, xQ, ↓reduceIte, xA, xM, xL, xT, xE, xN, xP, xR, xS, hA8, hA9, ints_zeros', ns, ns', List.length_replicate]
 exact ⟨.agg (.cons (frz_own (c := n) (by simp only [upd, ns, ns', if_true, if_false, ints_zeros', Int.toNat_natCast]) (by simp [ints_len]) hbs) (.cons (.refl _) .nil)), by repeat (first | exact Drop.refl _ | assumption | refine Drop.upd ?_ (by assumption))⟩
def largeE (t : Tm) : Int := whenE (!decide (numbersE t = 0)) 4
theorem f159 (t : Tm) (hl : Fits t.coeffs.length) : PCalls Tryz.prog Γ 159 [tmA t] (int (largeE t)) := by
 refine pcalls (ok159 Γ) fun σ => ?_
 simp only [go_sem, xQ, ↓reduceIte, xA, xM, xL, xT, xE, xN, xP, xR, xS, Tryz.f159]
 refine callB_use (f173 t hl) rfl ?_
 simp only [go_sem, xQ, ↓reduceIte, xA, xM, xL, xT, xE, xN, xP, xR, xS]
 refine callB_use (f144 _ _) rfl ?_
 simp only [go_sem, xQ, ↓reduceIte, xA, xM, xL, xT, xE, xN, xP, xR, xS]
 exact retP_eq rfl
def oppT (t : Tm) (n : Int) : Tm := plusT ⟨List.replicate t.coeffs.length 0, n⟩ t (-1)
theorem f169 (t : Tm) (n : Int) (hl : Fits t.coeffs.length) : PCalls Tryz.prog Γ 169 [tmA t, int n] (tmA (oppT t n)) := by
 refine pcalls (ok169 Γ) fun σ => ?_
 simp only [go_sem, xQ, ↓reduceIte, xA, xM, xL, xT, xE, xN, xP, xR, xS, Tryz.f169]
 intro b hb
 simp only [go_sem, xQ, ↓reduceIte, xA, xM, xL, xT, xE, xN, xP, xR, xS]
 refine dcallB_use (f157 t.coeffs.length n hl) rfl ?_
 simp only [go_sem, xQ, ↓reduceIte, xA, xM, xL, xT, xE, xN, xP, xR, xS]
 refine callB_use (f158 ⟨List.replicate t.coeffs.length 0, n⟩ t (-1) (by simpa using hl) (by simp)) rfl ?_
 simp only [go_sem, xQ, ↓reduceIte, xA, xM, xL, xT, xE, xN, xP, xR, xS]
 exact retP_drop (by repeat (first | exact Drop.refl _ | assumption | refine Drop.upd ?_ (by assumption))) (rfl)
def lessT (t : Tm) (n : Int) : Tm := plusT t ⟨[], n⟩ (-1)
theorem f253 (t : Tm) (n : Int) (hl : Fits t.coeffs.length) : PCalls Tryz.prog Γ 253 [tmA t, int n] (tmA (lessT t n)) := by
 refine pcalls (ok253 Γ) fun σ => ?_
 simp only [go_sem, xQ, ↓reduceIte, xA, xM, xL, xT, xE, xN, xP, xR, xS, Tryz.f253]
 intro b hb
 simp only [go_sem, xQ, ↓reduceIte, xA, xM, xL, xT, xE, xN, xP, xR, xS]
 refine callB_fz (f158 t ⟨[], n⟩ (-1) hl (Nat.zero_le _)) (.cons (.refl _) (.cons (.agg (.cons .nil (.cons (.refl _) .nil))) (.cons (.refl _) .nil))) ?_
 simp only [go_sem, xQ, ↓reduceIte, xA, xM, xL, xT, xE, xN, xP, xR, xS]
 exact retP_drop (by repeat (first | exact Drop.refl _ | assumption | refine Drop.upd ?_ (by assumption))) (rfl)
end Go.AL

/- Opposite; copies told; same formulas. -/
set_option linter.unusedVariables false
set_option linter.unusedSimpArgs false
namespace Go.AL
open Go.Proofs
variable {Γ : Glob}
attribute [local irreducible] codeW opsW dopsW
theorem f82 (a b : Tm) (hl : Fits a.coeffs.length) : PCalls Tryz.prog Γ 82 [tmA a, tmA b] (.v (.bool (decide (a = b)))) := by
 refine pcalls (ok82 Γ) fun σ => ?_
 by_cases h : a.const = b.const
 ·simp only [go_sem, xQ, ↓reduceIte, xA, xM, xL, xT, xE, xN, xP, xR, xS, Tryz.f82, h]
  refine callB_use (f38 _ _ hl) rfl ?_
  simp only [go_sem, xQ, ↓reduceIte, xA, xM, xL, xT, xE, xN, xP, xR, xS]
  exact retP_eq (by cases a; cases b; simp only at h; subst h; simp)
 ·simp only [go_sem, xQ, ↓reduceIte, xA, xM, xL, xT, xE, xN, xP, xR, xS, Tryz.f82, h]
  exact retP_eq (by have : ¬ a = b := fun e => h (by rw [e]); simp [this])
end Go.AL

/- Put. -/
set_option linter.unusedVariables false
set_option linter.unusedSimpArgs false
namespace Go.AL
open Go.Proofs
variable {Γ : Glob}
attribute [local irreducible] codeW opsW dopsW
/-- Terms put into a sum, one by one; none if a number is too large. -/
def putT (terms : List Tm) : List Int → Nat → Tm → Option Tm
 | [], _, t => some t
 | c :: cs, i, t => match terms[i]? with
  | none => none
  | some x => if largeE (plusT t x c) = 0 then putT terms cs (i + 1) (plusT t x c) else none
theorem ers_upd (σ : Sig) (r : Nat) : ers σ r = upd σ r none := by funext i; rw [xS]; rfl
theorem Grow.neO {σ0 σ : Sig} {s n b : Nat} {a : AV} {cs : List AV} {o : Obj} (h : Grow σ0 σ s a cs n) (hb : σ b = some (.obj o)) : ∀ s1 o m, a ≠ .own b s1 o m := fun s1 o m e => by
 rcases h with ⟨h, _⟩ | ⟨b', c, h0, h1, h2, h3⟩
 ·rcases h with h | h <;> rw [h] at e <;> cases e
 ·rw [h0] at e
  cases e
  rw [h2] at hb
  cases hb
end Go.AL
