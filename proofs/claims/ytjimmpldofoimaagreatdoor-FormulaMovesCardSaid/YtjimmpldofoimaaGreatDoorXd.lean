/- Cases: small parts. -/
import Derived.Test.YtjimmpldofoimaaGreatDoorAlMapW
import Derived.Test.YtjimmpldofoimaaGreatDoorXc
open Nat renaming reduceEqDiff → xQ, reduceAdd → xA, reduceMul → xM, reduceLeDiff → xL
open Int renaming reduceLT → xT, reduceLE → xE, reduceToNat → xN
open Go.AL renaming retPost_one → xP, retPost_oneN → xR, ers_at' → xS
set_option linter.unusedVariables false
set_option linter.unusedSimpArgs false
namespace Go.AL
open Go.Proofs
variable {Γ : Glob}
attribute [local irreducible] codeW opsW dopsW
/-- Lists of cases. -/
def slC (l : List (List Tm)) : AV := .sl (l.map slT) l.length
def slCC (l : List (List (List Tm))) : AV := .sl (l.map slC) l.length
/-- A way to take a node: its index, and whether turned. -/
def wayA (i : Int) (n : Bool) : AV := .agg [int i, .v (.bool n)]
attribute [go_sem] slC slCC wayA
theorem f150 (l : List Tm) (hl : Fits l.length) (fv : AV) (g : Tm → Tm) (hg : ∀ x ∈ l, DCall Tryz.prog Γ fv [tmA x] (tmA (g x))) : PCalls Tryz.prog Γ 150 [slT l, fv] (slT (l.map g)) := by
  refine pcalls (ok150 Γ) fun σ => ?_
  simp only [go_sem, xQ, ↓reduceIte, xA, xM, xL, xT, xE, xN, xP, xR, xS, Tryz.f150]
  refine SemC.loopK mixed l.length (fun k ρ σ' ds => Drop σ' σ ∧ ds = [] ∧ ρ 1 = fv ∧ ρ 8 = slT l ∧ ρ 9 = int l.length ∧ ρ 10 = int k ∧ Grow σ σ' 2 (ρ 5) (((l.take k).map g).flatMap tmC) k) (by kernel_rfl) ⟨.refl _, rfl, rfl, rfl, rfl, rfl, .nil _ _ _⟩ ?_
  rintro k ρ σ' ds hk ⟨hD, rfl, h1, h8, h9, h10, hG⟩
  rcases get_or_end l k hk with ⟨x, hx, hlt, hd⟩ | rfl
  · simp only [go_sem, xQ, ↓reduceIte, xA, xM, xL, xT, xE, xN, xP, xR, xS, h1, h8, h9, h10, hlt, hx, ↓tm_part hx]
    intro b hb
    simp only [go_sem, xQ, ↓reduceIte, xA, xM, xL, xT, xE, xN, xP, xR, xS, h1, h8, h9, h10, hlt, hx, ↓tm_part hx]
    refine callB_d (hg x (mem_of_get hx)) ?_
    simp only [go_sem, xQ, ↓reduceIte, xA, xM, xL, xT, xE, xN, xP, xR, xS]
    refine appB_sl (appT_sl el32 tk94 by94 el32 (by decide) rfl (by decide)) (hD.upd (hD.free hb)) (hG.upd hb) rfl rfl (by omega) (fun a' σ2 hD2 hO hG2 => ?_)
    simp only [go_sem, xQ, ↓reduceIte, xA, xM, xL, xT, xE, xN, xP, xR, xS, h1, h8, h9, h10]
    refine ⟨hD2, by rw [wrap_succ _ (by omega)], ?_⟩
    rw [take_succ hx, List.map_append, List.flatMap_append]
    simpa [tmC, slI, int] using hG2
  · simp only [go_sem, xQ, ↓reduceIte, xA, xM, xL, xT, xE, xN, xP, xR, xS, h8, h9, h10, Nat.lt_irrefl]
    have := hG.retP hD
    rw [List.take_length] at this
    rw [List.length_map]
    exact this
theorem f149 (l : List Tm) (hl : Fits l.length) (hc : ∀ t ∈ l, Fits t.coeffs.length) : PCalls Tryz.prog Γ 149 [slT l] (slT l) := by
  refine pcalls (ok149 Γ) fun σ => ?_
  simp only [go_sem, xQ, ↓reduceIte, xA, xM, xL, xT, xE, xN, xP, xR, xS, Tryz.f149]
  refine callB_use (f150 l hl _ (fun t => t) (fun x hx => dcall_of (f151 x (hc x hx)) rfl)) rfl ?_
  simp only [go_sem, xQ, ↓reduceIte, xA, xM, xL, xT, xE, xN, xP, xR, xS]
  exact retP_eq (by simp)
theorem f148 (l : List (List Tm)) (hl : Fits l.length) (fv : AV) (g : List Tm → List Tm) (hg : ∀ x ∈ l, DCall Tryz.prog Γ fv [slT x] (slT (g x))) : PCalls Tryz.prog Γ 148 [slC l, fv] (slC (l.map g)) := by
  refine pcalls (ok148 Γ) fun σ => ?_
  simp only [go_sem, xQ, ↓reduceIte, xA, xM, xL, xT, xE, xN, xP, xR, xS, Tryz.f148]
  refine SemC.loopK mixed l.length (fun k ρ σ' ds => Drop σ' σ ∧ ds = [] ∧ ρ 1 = fv ∧ ρ 8 = slC l ∧ ρ 9 = int l.length ∧ ρ 10 = int k ∧ Grow σ σ' 1 (ρ 5) (((l.take k).map g).map slT) k) (by kernel_rfl) ⟨.refl _, rfl, rfl, rfl, rfl, rfl, .nil _ _ _⟩ ?_
  rintro k ρ σ' ds hk ⟨hD, rfl, h1, h8, h9, h10, hG⟩
  rcases get_or_end l k hk with ⟨x, hx, hlt, hd⟩ | rfl
  · simp only [go_sem, xQ, ↓reduceIte, xA, xM, xL, xT, xE, xN, xP, xR, xS, h1, h8, h9, h10, hlt, hx]
    refine callB_d (hg x (mem_of_get hx)) ?_
    simp only [go_sem, xQ, ↓reduceIte, xA, xM, xL, xT, xE, xN, xP, xR, xS]
    refine appB_sl (appT_sl el73 tk32 by32 el73 (by decide) rfl (by decide)) hD hG rfl rfl (by omega) (fun a' σ2 hD2 hO hG2 => ?_)
    simp only [go_sem, xQ, ↓reduceIte, xA, xM, xL, xT, xE, xN, xP, xR, xS, h1, h8, h9, h10]
    refine ⟨hD2, by rw [wrap_succ _ (by omega)], ?_⟩
    rw [take_succ hx, List.map_append, List.map_append]
    simpa [slT] using hG2
  · simp only [go_sem, xQ, ↓reduceIte, xA, xM, xL, xT, xE, xN, xP, xR, xS, h8, h9, h10, Nat.lt_irrefl]
    have := hG.retP hD
    rw [List.take_length] at this
    rw [List.length_map]
    exact this
theorem f255 (l : List (List Tm)) : PCalls Tryz.prog Γ 255 [slC l] (.v (.bool (decide (l.length = 0)))) := by
  refine pcalls (ok255 Γ) fun σ => ?_
  simp only [go_sem, xQ, ↓reduceIte, xA, xM, xL, xT, xE, xN, xP, xR, xS, Tryz.f255]
  exact retP_eq (by simp)
theorem f272 (l : List (List (List Tm))) (hl : Fits l.length) (fv : AV) (g : List (List Tm) → Bool) (hg : ∀ x ∈ l, DCall Tryz.prog Γ fv [slC x] (.v (.bool (g x)))) : PCalls Tryz.prog Γ 272 [slCC l, fv] (int (match l.findIdx? g with | some i => (i : Int) | none => -1)) := by
  refine pcalls (ok272 Γ) fun σ => ?_
  simp only [go_sem, xQ, ↓reduceIte, xA, xM, xL, xT, xE, xN, xP, xR, xS, Tryz.f272]
  refine SemC.loopK mixed l.length (fun k ρ σ' ds => σ' = σ ∧ ds = [] ∧ ρ 0 = slCC l ∧ ρ 1 = fv ∧ ρ 6 = slCC l ∧ ρ 7 = int l.length ∧ ρ 8 = int k ∧ l.findIdx? g = ((l.drop k).findIdx? g).map (fun i => i + k)) (by kernel_rfl) ⟨rfl, rfl, rfl, rfl, rfl, rfl, rfl, by simp⟩ ?_
  rintro k ρ σ' ds hk ⟨rfl, rfl, h0, h1, h6, h7, h8, hz⟩
  rcases get_or_end l k hk with ⟨x, hx, hlt, hd⟩ | rfl
  · rw [hd, List.findIdx?_cons] at hz
    simp only [go_sem, xQ, ↓reduceIte, xA, xM, xL, xT, xE, xN, xP, xR, xS, h0, h1, h6, h7, h8, hlt, hx]
    refine callB_d (hg x (mem_of_get hx)) ?_
    by_cases hgx : g x = true
    · simp only [hgx, if_true] at hz
      simp only [go_sem, xQ, ↓reduceIte, xA, xM, xL, xT, xE, xN, xP, xR, xS, h0, h1, h6, h7, h8, hlt, hx, hgx]
      exact retP_eq (by rw [hz]; simp)
    · simp only [hgx, if_false] at hz
      simp only [go_sem, xQ, ↓reduceIte, xA, xM, xL, xT, xE, xN, xP, xR, xS, h0, h1, h6, h7, h8, hlt, hx, hgx]
      refine ⟨by rw [wrap_succ _ (by omega)], ?_⟩
      rw [hz]
      simp [Option.map_map, Function.comp_def, Nat.add_assoc, Nat.add_comm 1]
  · rw [List.drop_length] at hz
    simp only [go_sem, xQ, ↓reduceIte, xA, xM, xL, xT, xE, xN, xP, xR, xS, h0, h1, h6, h7, h8, Nat.lt_irrefl]
    exact retP_eq (by rw [hz]; simp)
theorem f254 (l : List (List (List Tm))) (hl : Fits l.length) (fv : AV) (g : List (List Tm) → Bool) (hg : ∀ x ∈ l, DCall Tryz.prog Γ fv [slC x] (.v (.bool (g x)))) : PCalls Tryz.prog Γ 254 [slCC l, fv] (.v (.bool (l.any g))) := by
  refine pcalls (ok254 Γ) fun σ => ?_
  simp only [go_sem, xQ, ↓reduceIte, xA, xM, xL, xT, xE, xN, xP, xR, xS, Tryz.f254]
  refine callB_use (f272 l hl fv g hg) rfl ?_
  simp only [go_sem, xQ, ↓reduceIte, xA, xM, xL, xT, xE, xN, xP, xR, xS]
  refine retP_eq ?_
  have : l.any g = (l.findIdx? g).isSome := by rw [List.findIdx?_isSome]
  rw [this]
  cases l.findIdx? g with
  | none => simp
  | some i => simp
/-- How a node is taken in a way. -/
def kindW (n : Nd) (b : Bool) : Int := if b = true ∧ (n.kind = 3 ∨ n.kind = 4) then 7 - n.kind else n.kind
theorem f222 (f : Fm) (i : Nat) (b : Bool) (n : Nd) (hn : f.nodes[i]? = some n) : PCalls Tryz.prog Γ 222 [fmA f, wayA i b] (int (kindW n b)) := by
  have hlt := lt_of_getElem? hn
  have e43 : ((4 : Int) = 3) = False := eq_false (by decide)
  refine pcalls (ok222 Γ) fun σ => ?_
  cases b
  · simp only [go_sem, xQ, ↓reduceIte, xA, xM, xL, xT, xE, xN, xP, xR, xS, Tryz.f222, hlt, ↓nd_get0 hn]
    exact retP_eq (by simp [kindW])
  · by_cases h3 : n.kind = 3
    · simp only [go_sem, xQ, ↓reduceIte, xA, xM, xL, xT, xE, xN, xP, xR, xS, Tryz.f222, hlt, ↓nd_get0 hn, h3]
      exact retP_eq (by simp [kindW, h3]; rfl)
    · by_cases h4 : n.kind = 4
      · simp only [go_sem, xQ, ↓reduceIte, xA, xM, xL, xT, xE, xN, xP, xR, xS, Tryz.f222, hlt, ↓nd_get0 hn, h3, h4, e43]
        exact retP_eq (by simp [kindW, h4]; rfl)
      · simp only [go_sem, xQ, ↓reduceIte, xA, xM, xL, xT, xE, xN, xP, xR, xS, Tryz.f222, hlt, ↓nd_get0 hn, h3, h4]
        exact retP_eq (by simp [kindW, h3, h4])
theorem f223 (f : Fm) (i : Int) (b : Bool) : PCalls Tryz.prog Γ 223 [fmA f, wayA i b] (.fn (.func 252) [] [.pp (fmC f) 0, .pp [int i, .v (.bool b)] 0]) := by
  refine pcalls (ok223 Γ) fun σ => ?_
  simp only [go_sem, xQ, ↓reduceIte, xA, xM, xL, xT, xE, xN, xP, xR, xS, Tryz.f223]
/-- The ways to take what a node is made of. -/
def waysX (n : Nd) (b : Bool) : List AV := n.kids.map fun k => wayA k (b != decide (n.kind = 2))
/-- The node that is gone through. -/
def ownD (n : Nd) : Blk → Prop := fun x => x = .row (ndC n) 4 1
theorem f252 (f : Fm) (i : Nat) (b : Bool) (n : Nd) (hn : f.nodes[i]? = some n) (hl : Fits n.kids.length) : IterE Tryz.prog Γ (ownD n) noD 252 [] [.pp (fmC f) 0, .pp [int i, .v (.bool b)] 0] (fun _ => True) (waysX n b) := by
  have hlt0 := lt_of_getElem? hn
  intro yv σ0 I K _ hI hKs h0 hy hK
  refine acalls (ok252 Γ) ?_
  simp only [List.nil_append, List.cons_append]
  simp only [go_sem, xQ, ↓reduceIte, xA, xM, xL, xT, xE, xN, xP, xR, xS, Tryz.f252, hlt0, ↓nd_part hn]
  intro b4 hb4
  simp only [go_sem, xQ, ↓reduceIte, xA, xM, xL, xT, xE, xN, xP, xR, xS]
  refine SemC.loopK mixed n.kids.length (fun k ρ σ' ds => ds = [] ∧ ρ 0 = yv ∧ ρ 2 = .pp [int i, .v (.bool b)] 0 ∧ ρ 4 = .v (.pointer (some ⟨b4, 0, none⟩)) ∧ ρ 14 = slI n.kids ∧ ρ 15 = int n.kids.length ∧ ρ 16 = int k ∧ σ' b4 = some (.row (ndC n) 4 1) ∧ I k σ') (by kernel_rfl) ⟨rfl, rfl, rfl, rfl, rfl, rfl, rfl, by simp only [go_sem, xQ, ↓reduceIte, xA, xM, xL, xT, xE, xN, xP, xR, xS], by rw [upd_upd]; exact hI 0 _ _ _ (.inl hb4) h0⟩ ?_
  rintro k ρ σ' ds hk ⟨rfl, h0', h2, h4, h14, h15, h16, hs4, hIk⟩
  rcases get_or_end n.kids k hk with ⟨x, hx, hlt, hd⟩ | hk
  · have hx' : (waysX n b)[k]? = some (wayA x (b != decide (n.kind = 2))) := by simp [waysX, hx]
    simp only [go_sem, xQ, ↓reduceIte, xA, xM, xL, xT, xE, xN, xP, xR, xS, h0', h2, h4, h14, h15, h16, hlt, hx, hs4]
    refine callB_mono (fun r σ2 h => ?_) (hy k _ _ hx' hIk)
    rcases h with ⟨hkp, ⟨rfl, h⟩ | ⟨rfl, h⟩⟩
    · simp only [go_sem, xQ, ↓reduceIte, xA, xM, xL, xT, xE, xN, xP, xR, xS, h0', h2, h4, h14, h15, h16]
      exact ⟨hlt, by rw [wrap_succ _ (by omega)], hkp b4 _ hs4 rfl, h⟩
    · simp only [go_sem, xQ, ↓reduceIte, xA, xM, xL, xT, xE, xN, xP, xR, xS, h0', h2, h4, h14, h15, h16]
      exact h
  · subst hk
    simp only [go_sem, xQ, ↓reduceIte, xA, xM, xL, xT, xE, xN, xP, xR, xS, h0', h2, h4, h14, h15, h16, Nat.lt_irrefl]
    exact hK _ (by rw [waysX, List.length_map]; exact hIk)
end Go.AL

/- Cases: counting. -/
set_option linter.unusedVariables false
set_option linter.unusedSimpArgs false
namespace Go.AL
open Go.Proofs
variable {Γ : Glob}
attribute [local irreducible] codeW opsW dopsW
@[reducible] noncomputable def p146z (Γ : Glob) : Par := par Γ [4, 5, 7, 8, 9, 10, 11, 12, 13] [(1, [false, false, false, false, false, true])] [(1, [0, 1, 3, 7, 0, 31, 63, 127, 127, 0, 767, 2047]), (5, [0, 1, 3, 7, 0, 31]), (13, [0, 1, 3, 7, 0, 31]), (18, [0, 1, 3, 7, 0, 31]), (27, [0, 1, 3, 7, 0, 31]), (31, [0, 0, 2, 6, 14, 30, 62, 126, 254, 510, 1022, 2046, 4094, 8190, 16382, 32767, 65535, 131071]), (33, [0, 1, 3, 7, 0, 0, 63])]
theorem ok146z (Γ : Glob) : FnOk (p146z Γ) 146 138 (Tryz.f146.body.getD .skip) Tryz.f146.results.toList 2 := fnOk (par_mixed _ _ _ _) Tryz.func146 rfl rfl rfl (by kernel_rfl) (Nat.le_of_ble_eq_true rfl) (by kernel_rfl)
/-! ### Counts of cases, told without a memory -/
def outC (k : Int) (b : Bool) (sub : List (Int × Int)) : Int × Int :=
  if k = 0 then (1, 1) else if k = 1 then (if b then (2, 1) else (1, 2)) else if k = 2 then sub.getLastD (1, 0)
  else if k = 3 then (if sub.any (fun n => decide (n = (0, 0))) then (0, 0) else sub.foldl (fun o n => (min (o.1 * n.1) 65, o.2 + n.2)) (1, 0))
  else if k = 4 then sub.foldl (fun o n => (min (o.1 + n.1) 65, max o.2 n.2)) (0, 0) else (1, 0)
def cntF (l : List Nd) : Nat → WayT → Int × Int
  | 0, _ => (0, 0)
  | fuel + 1, w => match l[w.1.toNat]? with
    | none => (0, 0)
    | some n =>
      let o := outC (kindW n w.2) w.2 (n.kids.map fun x => cntF l fuel (x, w.2 != decide (n.kind = 2)))
      (o.1, min o.2 33)
def cntW (l : List Nd) (w : WayT) : Int × Int := cntF l (w.1.toNat + 1) w
/-- The ways that are gone through. -/
def reachFX (l : List Nd) : Nat → WayT → List WayT
  | 0, _ => []
  | fuel + 1, w => match l[w.1.toNat]? with
    | none => []
    | some n => w :: n.kids.flatMap fun x => reachFX l fuel (x, w.2 != decide (n.kind = 2))
def reachW (l : List Nd) (w : WayT) : List WayT := reachFX l (w.1.toNat + 1) w
def badC (c : Int × Int) : Bool := decide (64 < c.1) || decide (32 < c.2)
def badW (l : List Nd) (w : WayT) : Bool := (reachW l w).any fun v => badC (cntW l v)
def cntA (c : Int × Int) : AV := .agg [int c.1, int c.2]
/-- What the memory of counts may be. -/
def MemoC (l : List Nd) (m : List (WayT × AV)) (bad : Bool) : Prop := ∀ p ∈ m, p.2 = cntA (cntW l p.1) ∧ (badW l p.1 = true → bad = true)
def KidsDown (l : List Nd) : Prop := ∀ (k : Nat) (n : Nd), l[k]? = some n → ∀ x ∈ n.kids, 0 ≤ x ∧ x < (k : Int)
theorem cntF_st {l : List Nd} (hd : KidsDown l) : ∀ (fuel fuel' : Nat) (w : WayT), w.1.toNat < fuel → w.1.toNat < fuel' → cntF l fuel w = cntF l fuel' w
  | 0, _, _, h, _ => by omega
  | _ + 1, 0, _, _, h => by omega
  | fuel + 1, fuel' + 1, w, h, h' => by
    rw [cntF, cntF]
    cases hn : l[w.1.toNat]? with
    | none => rfl
    | some n =>
      have e : (n.kids.map fun x => cntF l fuel (x, w.2 != decide (n.kind = 2))) = n.kids.map fun x => cntF l fuel' (x, w.2 != decide (n.kind = 2)) := by
        refine List.map_congr_left fun x hx => ?_
        have := hd _ _ hn x hx
        exact cntF_st hd fuel fuel' _ (by simp only; omega) (by simp only; omega)
      simp only [e]
theorem cntW_eq {l : List Nd} (hd : KidsDown l) {i : Nat} {n : Nd} (hn : l[i]? = some n) (b : Bool) : cntW l ((i : Int), b) = ((outC (kindW n b) b (n.kids.map fun x => cntW l (x, b != decide (n.kind = 2)))).1, min (outC (kindW n b) b (n.kids.map fun x => cntW l (x, b != decide (n.kind = 2)))).2 33) := by
  have e : (n.kids.map fun x => cntF l i (x, b != decide (n.kind = 2))) = n.kids.map fun x => cntW l (x, b != decide (n.kind = 2)) := by
    refine List.map_congr_left fun x hx => ?_
    have := hd _ _ hn x hx
    exact cntF_st hd _ _ _ (by simp only; omega) (by simp only; omega)
  rw [cntW]
  simp only [Int.toNat_natCast, cntF, hn, e]
theorem reachF_st {l : List Nd} (hd : KidsDown l) : ∀ (fuel fuel' : Nat) (w : WayT), w.1.toNat < fuel → w.1.toNat < fuel' → reachFX l fuel w = reachFX l fuel' w
  | 0, _, _, h, _ => by omega
  | _ + 1, 0, _, _, h => by omega
  | fuel + 1, fuel' + 1, w, h, h' => by
    rw [reachFX, reachFX]
    cases hn : l[w.1.toNat]? with
    | none => rfl
    | some n =>
      have e : (n.kids.flatMap fun x => reachFX l fuel (x, w.2 != decide (n.kind = 2))) = n.kids.flatMap fun x => reachFX l fuel' (x, w.2 != decide (n.kind = 2)) := by
        rw [List.flatMap_def, List.flatMap_def]
        congr 1
        refine List.map_congr_left fun x hx => ?_
        have := hd _ _ hn x hx
        exact reachF_st hd fuel fuel' _ (by simp only; omega) (by simp only; omega)
      simp only [e]
theorem badW_eq {l : List Nd} (hd : KidsDown l) {i : Nat} {n : Nd} (hn : l[i]? = some n) (b : Bool) : badW l ((i : Int), b) = (badC (cntW l ((i : Int), b)) || n.kids.any fun x => badW l (x, b != decide (n.kind = 2))) := by
  have e : (n.kids.flatMap fun x => reachFX l i (x, b != decide (n.kind = 2))) = n.kids.flatMap fun x => reachW l (x, b != decide (n.kind = 2)) := by
    rw [List.flatMap_def, List.flatMap_def]
    congr 1
    refine List.map_congr_left fun x hx => ?_
    have := hd _ _ hn x hx
    exact reachF_st hd _ _ _ (by simp only; omega) (by simp only; omega)
  have r : reachW l ((i : Int), b) = ((i : Int), b) :: n.kids.flatMap fun x => reachW l (x, b != decide (n.kind = 2)) := by
    rw [reachW]
    simp only [Int.toNat_natCast, reachFX, hn, e]
  rw [badW, r, List.any_cons, List.any_flatMap]
  rfl
theorem zero234 (w : World) (σ : Sig) : ∃ v, (zeroValue 234).run Tryz.prog w = .ok v w ∧ Rep w σ (cntA (0, 0)) v := by
  obtain ⟨z, hz, hzz⟩ := run_zero_tk tk234 w
  refine ⟨z, hz, ?_⟩
  cases z with
  | agg cs =>
    have h : Reps w σ [int 0, int 0] cs.toList := by
      have e : [int 0, int 0] = cs.toList.map .v := hzz
      rw [e]
      exact Reps.vs _
    exact .agg h
  | _ => exact absurd (congrArg List.length hzz) (by simp [Value.cells])
theorem getW_mem {m : List (WayT × AV)} {w : WayT} {x : AV} (h : getW m w = some x) : (w, x) ∈ m := by
  induction m with
  | nil => cases h
  | cons p m ih =>
    rw [getW] at h
    split at h
    · rename_i hw
      cases h
      subst hw
      simp
    · exact List.mem_cons_of_mem _ (ih h)
theorem MemoC.add {l : List Nd} {m : List (WayT × AV)} {bad bad' : Bool} {w : WayT} (h : MemoC l m bad) (hb : bad = true → bad' = true) (hw : badW l w = true → bad' = true) : MemoC l (m ++ [(w, cntA (cntW l w))]) bad' := by
  intro p hp
  rcases List.mem_append.1 hp with hp | hp
  · exact ⟨(h p hp).1, fun hh => hb ((h p hp).2 hh)⟩
  · rw [List.mem_singleton] at hp
    subst hp
    exact ⟨rfl, hw⟩
/-- What is noted of a way, once what it is made of is counted. -/
theorem fin146 {l : List Nd} (hd : KidsDown l) {i : Nat} {n : Nd} (hn : l[i]? = some n) {b : Bool} {m1 : List (WayT × AV)} {bad bad1 bad2 : Bool} {o : Int × Int} (hm : MemoC l m1 bad1) (hO : outC (kindW n b) b (n.kids.map fun x => cntW l (x, b != decide (n.kind = 2))) = o)
    (h01 : bad = true → bad1 = true) (hk : ∀ x ∈ n.kids, badW l (x, b != decide (n.kind = 2)) = true → bad1 = true) (h1 : bad1 = true → bad = true ∨ n.kids.any (fun x => badW l (x, b != decide (n.kind = 2))) = true) (h2 : bad2 = (bad1 || badC (o.1, min o.2 33))) :
    cntW l ((i : Int), b) = (o.1, min o.2 33) ∧ MemoC l (m1 ++ [(((i : Int), b), cntA (o.1, min o.2 33))]) bad2 ∧ (bad = true → bad2 = true) ∧ (badW l ((i : Int), b) = true → bad2 = true) ∧ (bad2 = true → bad = true ∨ badW l ((i : Int), b) = true) := by
  have e : cntW l ((i : Int), b) = (o.1, min o.2 33) := by rw [cntW_eq hd hn, hO]
  have eb := badW_eq hd hn b
  rw [e] at eb
  have hw : badW l ((i : Int), b) = true → bad2 = true := fun h => by
    rw [eb, Bool.or_eq_true] at h
    rw [h2, Bool.or_eq_true]
    rcases h with h | h
    · exact .inr h
    · obtain ⟨x, hx, hb⟩ := List.any_eq_true.1 h
      exact .inl (hk x hx hb)
  have hb2 : bad1 = true → bad2 = true := fun h => by rw [h2, h]; rfl
  refine ⟨e, ?_, fun h => hb2 (h01 h), hw, fun h => ?_⟩
  · have := hm.add hb2 hw
    rwa [e] at this
  · rw [h2, Bool.or_eq_true] at h
    rcases h with h | h
    · rcases h1 h with h | h
      · exact .inl h
      · exact .inr (by rw [eb, h, Bool.or_true])
    · exact .inr (by rw [eb, h, Bool.true_or])
def cntRow (f : Fm) (bm : Nat) (bad : Bool) : Blk := .row [int f.vars, slN f.nodes, .v (.map (some bm)), .v (.bool bad)] 4 1
theorem us231 : Tryz.prog.underlying 231 = some (.map 229 234) := by kernel_rfl
/-! ### Bounds -/
def bdC (c : Int × Int) : Prop := 0 ≤ c.1 ∧ c.1 ≤ 65 ∧ 0 ≤ c.2 ∧ c.2 ≤ 33
def stepA (o n : Int × Int) : Int × Int := (min (o.1 * n.1) 65, o.2 + n.2)
def stepO (o n : Int × Int) : Int × Int := (min (o.1 + n.1) 65, max o.2 n.2)
theorem foldA_bd : ∀ (sub : List (Int × Int)) (o : Int × Int), (∀ n ∈ sub, bdC n) → 0 ≤ o.1 → o.1 ≤ 65 → 0 ≤ o.2 → 0 ≤ (sub.foldl stepA o).1 ∧ (sub.foldl stepA o).1 ≤ 65 ∧ 0 ≤ (sub.foldl stepA o).2 ∧ (sub.foldl stepA o).2 ≤ o.2 + 33 * sub.length
  | [], o, _, h1, h2, h3 => ⟨h1, h2, h3, by simp⟩
  | n :: sub, o, h, h1, h2, h3 => by
    obtain ⟨b1, b2, b3, b4⟩ := h n (by simp)
    have hm : 0 ≤ o.1 * n.1 := Int.mul_nonneg h1 b1
    obtain ⟨a1, a2, a3, a4⟩ := foldA_bd sub (stepA o n) (fun x hx => h x (List.mem_cons_of_mem _ hx)) (by simp only [stepA]; omega) (by simp only [stepA]; omega) (by simp only [stepA]; omega)
    refine ⟨a1, a2, a3, ?_⟩
    rw [List.foldl_cons]
    simp only [stepA] at a4 ⊢
    simp only [List.length_cons, Int.natCast_add, Int.cast_ofNat_Int]
    omega
theorem foldO_bd : ∀ (sub : List (Int × Int)) (o : Int × Int), (∀ n ∈ sub, bdC n) → bdC o → bdC (sub.foldl stepO o)
  | [], o, _, h => h
  | n :: sub, o, h, h1 => by
    obtain ⟨b1, b2, b3, b4⟩ := h n (by simp)
    obtain ⟨c1, c2, c3, c4⟩ := h1
    exact foldO_bd sub (stepO o n) (fun x hx => h x (List.mem_cons_of_mem _ hx)) ⟨by simp only [stepO]; omega, by simp only [stepO]; omega, by simp only [stepO]; omega, by simp only [stepO]; omega⟩
theorem out_bd (k : Int) (b : Bool) (sub : List (Int × Int)) (h : ∀ n ∈ sub, bdC n) : 0 ≤ (outC k b sub).1 ∧ (outC k b sub).1 ≤ 65 ∧ 0 ≤ (outC k b sub).2 := by
  unfold outC
  split
  · decide
  split
  · cases b <;> decide
  split
  · cases hs : sub.getLast? with
    | none =>
      rw [List.getLastD_eq_getLast?, hs]
      decide
    | some x =>
      rw [List.getLastD_eq_getLast?, hs]
      obtain ⟨b1, b2, b3, b4⟩ := h x (List.mem_of_getLast? hs)
      exact ⟨b1, b2, b3⟩
  split
  · split
    · decide
    · obtain ⟨a1, a2, a3, a4⟩ := foldA_bd sub (1, 0) h (by decide) (by decide) (by decide)
      exact ⟨a1, a2, a3⟩
  split
  · obtain ⟨a1, a2, a3, a4⟩ := foldO_bd sub (0, 0) h (by simp [bdC])
    exact ⟨a1, a2, a3⟩
  · decide
theorem cntF_bd (l : List Nd) : ∀ (fuel : Nat) (w : WayT), bdC (cntF l fuel w)
  | 0, w => by simp [cntF, bdC]
  | fuel + 1, w => by
    rw [cntF]
    cases hn : l[w.1.toNat]? with
    | none => simp [bdC]
    | some n =>
      obtain ⟨a1, a2, a3⟩ := out_bd (kindW n w.2) w.2 (n.kids.map fun x => cntF l fuel (x, w.2 != decide (n.kind = 2))) (fun c hc => by
        obtain ⟨x, _, rfl⟩ := List.mem_map.1 hc
        exact cntF_bd l fuel _)
      exact ⟨a1, a2, by simp only; omega, by simp only; omega⟩
theorem cntW_bd (l : List Nd) (w : WayT) : bdC (cntW l w) := cntF_bd l _ w
/-! ### What stays -/
/-- All blocks but these are as they were. -/
def Frm (bc bm : Nat) (σ σ' : Sig) : Prop := ∀ x y, x ≠ bc → x ≠ bm → σ x = some y → σ' x = some y
theorem Frm.refl {bc bm : Nat} {σ : Sig} : Frm bc bm σ σ := fun _ _ _ _ h => h
theorem Frm.new {bc bm : Nat} {σ σ' : Sig} {b : Nat} (h : Frm bc bm σ σ') (hb : σ b = none) (y : Option Blk) : Frm bc bm σ (upd σ' b y) := fun x z h1 h2 h3 => by
  rw [upd_ne _ _ _ _ (fun e => by rw [e, hb] at h3; cases h3)]
  exact h x z h1 h2 h3
theorem Frm.fresh {bc bm : Nat} {σ σ' : Sig} {b : Nat} (h : Frm bc bm σ σ') (hb : σ' b = none) (y : Option Blk) : Frm bc bm σ (upd σ' b y) := fun x z h1 h2 h3 => by
  have := h x z h1 h2 h3
  rw [upd_ne _ _ _ _ (fun e => by rw [e, hb] at this; cases this)]
  exact this
theorem Frm.own {bc bm : Nat} {σ σ' : Sig} {b : Nat} (h : Frm bc bm σ σ') (hb : b = bc ∨ b = bm) (y : Option Blk) : Frm bc bm σ (upd σ' b y) := fun x z h1 h2 h3 => by
  rw [upd_ne _ _ _ _ (fun e => by rcases hb with hb | hb <;> rw [hb] at e <;> contradiction)]
  exact h x z h1 h2 h3
theorem Frm.trans {bc bm : Nat} {σ σ1 σ2 : Sig} (h : Frm bc bm σ σ1) (h' : Frm bc bm σ1 σ2) : Frm bc bm σ σ2 := fun x y h1 h2 h3 => h' x y h1 h2 (h x y h1 h2 h3)
theorem Frm.closed {bc bm : Nat} {σ σ0 : Sig} (h0 : ∀ b, σ b = none → σ0 b = none) : Closed noD σ fun σ' => Frm bc bm σ0 σ' := fun σ' b z hb h x y h1 h2 h3 => by
  rw [upd_ne]
  · exact h x y h1 h2 h3
  · intro e
    subst e
    have := h x y h1 h2 h3
    rcases hb with hb | ⟨hb, _⟩ | ⟨w, hb, hw⟩
    · rw [this] at hb; cases hb
    · rw [h0 x hb] at h3; cases h3
    · exact hw
/-- The records, and the row that is gone through, stay in a kid's call. -/
theorem Frm.keep {n : Nd} {bc bm : Nat} {σ σ' : Sig} {cs : List AV} {s c : Nat} {es : List (AV × AV)} (hbc : σ bc = some (.row cs s c)) (hnc : ¬ ownD n (.row cs s c)) (hbm : σ bm = some (.map es)) (h : Frm bc bm σ σ') : Keep (KD (ownD n)) σ σ' := fun b y hb hy => by
  refine h b y ?_ ?_ hb
  · intro e
    rw [e, hbc] at hb
    cases hb
    rcases hy with hy | hy
    · exact hy
    · exact hnc hy
  · intro e
    rw [e, hbm] at hb
    cases hb
    rcases hy with hy | hy
    · exact hy
    · cases hy
theorem own_row {n : Nd} {cs : List AV} {s c : Nat} (h : s ≠ 4) : ¬ ownD n (.row cs s c) := fun e => by
  have e : Blk.row cs s c = .row (ndC n) 4 1 := e
  injection e with _ e2 _
  exact h e2
theorem own_cnt {n : Nd} {f : Fm} {bm : Nat} {bad : Bool} : ¬ ownD n (cntRow f bm bad) := fun e => by
  have e : cntRow f bm bad = .row (ndC n) 4 1 := e
  simp [cntRow, ndC, int] at e
theorem own_ctl {n : Nd} : ∀ x, ownD n x → ¬ Ctl x := fun x h k => by rw [h] at k; exact k
theorem minI (a b : Int) : (if b < a then b else a) = min a b := by split <;> omega
theorem maxI (a b : Int) : (if a < b then b else a) = max a b := by split <;> omega
/-! ### What stays true of the memory, kid by kid -/
structure Mid (l : List Nd) (i : Nat) (n : Nd) (b : Bool) (m : List (WayT × AV)) (bad : Bool) (k : Nat) (m1 : List (WayT × AV)) (bad1 : Bool) : Prop where
  memo : MemoC l m1 bad1
  up : bad = true → bad1 = true
  kids : ∀ x ∈ n.kids.take k, badW l (x, b != decide (n.kind = 2)) = true → bad1 = true
  why : bad1 = true → bad = true ∨ (n.kids.take k).any (fun x => badW l (x, b != decide (n.kind = 2))) = true
  new : ∀ p ∈ m1, p ∈ m ∨ p.1.1 < (i : Int)
theorem Mid.zero {l : List Nd} {i : Nat} {n : Nd} {b : Bool} {m : List (WayT × AV)} {bad : Bool} (h : MemoC l m bad) : Mid l i n b m bad 0 m bad :=
  ⟨h, fun h => h, fun x hx => by simp at hx, fun h => .inl h, fun p hp => .inl hp⟩
theorem Mid.succ {l : List Nd} {i : Nat} {n : Nd} {b : Bool} {m m1 m2 : List (WayT × AV)} {bad bad1 bad2 : Bool} {k : Nat} {x : Int} (h : Mid l i n b m bad k m1 bad1) (hx : n.kids[k]? = some x) (hxi : x < (i : Int)) (h1 : MemoC l m2 bad2) (h2 : bad1 = true → bad2 = true) (h3 : badW l (x, b != decide (n.kind = 2)) = true → bad2 = true) (h4 : bad2 = true → bad1 = true ∨ badW l (x, b != decide (n.kind = 2)) = true) (h5 : ∀ p ∈ m2, p ∈ m1 ∨ p.1.1 ≤ x) : Mid l i n b m bad (k + 1) m2 bad2 := by
  have e : n.kids.take (k + 1) = n.kids.take k ++ [x] := take_succ hx
  refine ⟨h1, fun hb => h2 (h.up hb), fun y hy hb => ?_, fun hb => ?_, fun p hp => ?_⟩
  · rw [e, List.mem_append, List.mem_singleton] at hy
    rcases hy with hy | rfl
    · exact h2 (h.kids y hy hb)
    · exact h3 hb
  · rw [e, List.any_append]
    rcases h4 hb with hb | hb
    · rcases h.why hb with hb | hb
      · exact .inl hb
      · exact .inr (by rw [hb, Bool.true_or])
    · exact .inr (by simp [hb])
  · rcases h5 p hp with hp | hp
    · exact h.new p hp
    · exact .inr (by omega)
theorem getW_none {m m1 : List (WayT × AV)} {i : Nat} {b : Bool} (h : getW m ((i : Int), b) = none) (hn : ∀ p ∈ m1, p ∈ m ∨ p.1.1 < (i : Int)) : getW m1 ((i : Int), b) = none := by
  cases h1 : getW m1 ((i : Int), b) with
  | none => rfl
  | some x =>
    rcases hn _ (getW_mem h1) with hp | hp
    · exact absurd h (by
        have key : ∀ (m : List (WayT × AV)), (((i : Int), b), x) ∈ m → getW m ((i : Int), b) ≠ none := by
          intro m
          induction m with
          | nil => intro h; cases h
          | cons p m ih =>
            intro hp hc
            rw [getW] at hc
            split at hc
            · cases hc
            · rename_i hne
              rcases List.mem_cons.1 hp with e | e
              · exact hne (by rw [← e])
              · exact ih e hc
        exact key m hp)
    · exact absurd hp (by simp)
end Go.AL
