import Derived.Test.YtjimmpldofoimaaGreatDoorXc
open Go.AL renaming retPost_one → xP, retPost_oneN → xR, ers_at' → xS
set_option linter.unusedVariables false
set_option linter.unusedSimpArgs false
namespace Go.AL
open Go.Proofs
variable {Γ : Glob}
attribute [local irreducible] codeW opsW dopsW
def slC (l : List (List Tm)) : AV := .sl (l.map slT) l.length
def slCC (l : List (List (List Tm))) : AV := .sl (l.map slC) l.length
theorem slC_get {l : List (List Tm)} {k : Nat} {x : List Tm} (h : l[k]? = some x) : (l.map slT)[k]? = some (slT x) := by simp [h]
theorem slCC_get {l : List (List (List Tm))} {k : Nat} {x : List (List Tm)} (h : l[k]? = some x) : (l.map slC)[k]? = some (slC x) := by simp [h]
def wayA (i : Int) (n : Bool) : AV := .agg [int i, .v (.bool n)]
attribute [go_sem] slC slCC wayA
theorem f150 (l : List Tm) (hl : Fits l.length) (fv : AV) (g : Tm → Tm) (hg : ∀ x ∈ l, DCall Tryz.prog Γ fv [tmA x] (tmA (g x))) : PCalls Tryz.prog Γ 150 [slT l, fv] (slT (l.map g)) := by
 refine pcalls (ok150 Γ) fun σ => ?_
 simp only [go_sem, xP, xR, xS, Tryz.f150]
 refine SemC.loopK mixed l.length (fun k ρ σ' ds => Drop σ' σ ∧ ds = [] ∧ ρ 1 = fv ∧ ρ 8 = slT l ∧ ρ 9 = int l.length ∧ ρ 10 = int k ∧ Grow σ σ' 2 (ρ 5) (((l.take k).map g).flatMap tmC) k) (by kernel_rfl) ⟨.refl _, rfl, rfl, rfl, rfl, rfl, .nil _ _ _⟩ ?_
 rintro k ρ σ' ds hk ⟨hD, rfl, h1, h8, h9, h10, hG⟩
 rcases get_or_end l k hk with ⟨x, hx, hlt, hd⟩ | rfl
 ·simp only [go_sem, xP, xR, xS, h1, h8, h9, h10, hlt, hx, ↓tm_part hx]
  intro b hb
  simp only [go_sem, xP, xR, xS, h1, h8, h9, h10, hlt, hx, ↓tm_part hx]
  refine callB_d (hg x (mem_of_get hx)) ?_
  simp only [go_sem, xP, xR, xS]
  refine appB_sl (appT_sl el32 tk94 by94 el32 (by decide) rfl (by decide)) (hD.upd (hD.free hb)) (hG.upd hb) rfl rfl (by omega) (fun a' σ2 hD2 hO hG2 => ?_)
  simp only [go_sem, xP, xR, xS, h1, h8, h9, h10]
  refine ⟨hD2, by rw [wrap_succ _ (by omega)], ?_⟩
  rw [take_succ hx, List.map_append, List.flatMap_append]
  simpa [tmC, slI, int] using hG2
 ·simp only [go_sem, xP, xR, xS, h8, h9, h10, Nat.lt_irrefl]
  have := hG.retP hD
  rw [List.take_length] at this
  rw [List.length_map]
  exact this
theorem f149 (l : List Tm) (hl : Fits l.length) (hc : ∀ t ∈ l, Fits t.coeffs.length) : PCalls Tryz.prog Γ 149 [slT l] (slT l) := by
 refine pcalls (ok149 Γ) fun σ => ?_
 simp only [go_sem, xP, xR, xS, Tryz.f149]
 refine callB_use (f150 l hl _ (fun t => t) (fun x hx => dcall_of (f151 x (hc x hx)) rfl)) rfl ?_
 simp only [go_sem, xP, xR, xS]
 exact retP_eq (by simp)
theorem f148 (l : List (List Tm)) (hl : Fits l.length) (fv : AV) (g : List Tm → List Tm) (hg : ∀ x ∈ l, DCall Tryz.prog Γ fv [slT x] (slT (g x))) : PCalls Tryz.prog Γ 148 [slC l, fv] (slC (l.map g)) := by
 refine pcalls (ok148 Γ) fun σ => ?_
 simp only [go_sem, xP, xR, xS, Tryz.f148]
 refine SemC.loopK mixed l.length (fun k ρ σ' ds => Drop σ' σ ∧ ds = [] ∧ ρ 1 = fv ∧ ρ 8 = slC l ∧ ρ 9 = int l.length ∧ ρ 10 = int k ∧ Grow σ σ' 1 (ρ 5) (((l.take k).map g).map slT) k) (by kernel_rfl) ⟨.refl _, rfl, rfl, rfl, rfl, rfl, .nil _ _ _⟩ ?_
 rintro k ρ σ' ds hk ⟨hD, rfl, h1, h8, h9, h10, hG⟩
 rcases get_or_end l k hk with ⟨x, hx, hlt, hd⟩ | rfl
 ·simp only [go_sem, xP, xR, xS, h1, h8, h9, h10, hlt, hx]
  refine callB_d (hg x (mem_of_get hx)) ?_
  simp only [go_sem, xP, xR, xS]
  refine appB_sl (appT_sl el73 tk32 by32 el73 (by decide) rfl (by decide)) hD hG rfl rfl (by omega) (fun a' σ2 hD2 hO hG2 => ?_)
  simp only [go_sem, xP, xR, xS, h1, h8, h9, h10]
  refine ⟨hD2, by rw [wrap_succ _ (by omega)], ?_⟩
  rw [take_succ hx, List.map_append, List.map_append]
  simpa [slT] using hG2
 ·simp only [go_sem, xP, xR, xS, h8, h9, h10, Nat.lt_irrefl]
  have := hG.retP hD
  rw [List.take_length] at this
  rw [List.length_map]
  exact this
theorem f255 (l : List (List Tm)) : PCalls Tryz.prog Γ 255 [slC l] (.v (.bool (decide (l.length = 0)))) := by
 refine pcalls (ok255 Γ) fun σ => ?_
 simp only [go_sem, xP, xR, xS, Tryz.f255]
 exact retP_eq (by simp)
theorem f272 (l : List (List (List Tm))) (hl : Fits l.length) (fv : AV) (g : List (List Tm) → Bool) (hg : ∀ x ∈ l, DCall Tryz.prog Γ fv [slC x] (.v (.bool (g x)))) : PCalls Tryz.prog Γ 272 [slCC l, fv] (int (match l.findIdx? g with | some i => (i : Int) | none => -1)) := by
 refine pcalls (ok272 Γ) fun σ => ?_
 simp only [go_sem, xP, xR, xS, Tryz.f272]
 refine SemC.loopK mixed l.length (fun k ρ σ' ds => σ' = σ ∧ ds = [] ∧ ρ 0 = slCC l ∧ ρ 1 = fv ∧ ρ 6 = slCC l ∧ ρ 7 = int l.length ∧ ρ 8 = int k ∧ l.findIdx? g = ((l.drop k).findIdx? g).map (fun i => i + k)) (by kernel_rfl) ⟨rfl, rfl, rfl, rfl, rfl, rfl, rfl, by simp⟩ ?_
 rintro k ρ σ' ds hk ⟨rfl, rfl, h0, h1, h6, h7, h8, hz⟩
 rcases get_or_end l k hk with ⟨x, hx, hlt, hd⟩ | rfl
 ·rw [hd, List.findIdx?_cons] at hz
  simp only [go_sem, xP, xR, xS, h0, h1, h6, h7, h8, hlt, hx]
  refine callB_d (hg x (mem_of_get hx)) ?_
  by_cases hgx : g x = true
  ·simp only [hgx, if_true] at hz
   simp only [go_sem, xP, xR, xS, h0, h1, h6, h7, h8, hlt, hx, hgx]
   exact retP_eq (by rw [hz]; simp)
  ·simp only [hgx, if_false] at hz
   simp only [go_sem, xP, xR, xS, h0, h1, h6, h7, h8, hlt, hx, hgx]
   refine ⟨by rw [wrap_succ _ (by omega)], ?_⟩
   rw [hz]
   simp [Option.map_map, Function.comp_def, Nat.add_assoc, Nat.add_comm 1]
 ·rw [List.drop_length] at hz
  simp only [go_sem, xP, xR, xS, h0, h1, h6, h7, h8, Nat.lt_irrefl]
  exact retP_eq (by rw [hz]; simp)
theorem f254 (l : List (List (List Tm))) (hl : Fits l.length) (fv : AV) (g : List (List Tm) → Bool) (hg : ∀ x ∈ l, DCall Tryz.prog Γ fv [slC x] (.v (.bool (g x)))) : PCalls Tryz.prog Γ 254 [slCC l, fv] (.v (.bool (l.any g))) := by
 refine pcalls (ok254 Γ) fun σ => ?_
 simp only [go_sem, xP, xR, xS, Tryz.f254]
 refine callB_use (f272 l hl fv g hg) rfl ?_
 simp only [go_sem, xP, xR, xS]
 refine retP_eq ?_
 have : l.any g = (l.findIdx? g).isSome := by rw [List.findIdx?_isSome]
 rw [this]
 cases l.findIdx? g with
 | none => simp
 | some i => simp
def kindW (n : Nd) (b : Bool) : Int := if b = true ∧ (n.kind = 3 ∨ n.kind = 4) then 7 - n.kind else n.kind
theorem f222 (f : Fm) (i : Nat) (b : Bool) (n : Nd) (hn : f.nodes[i]? = some n) : PCalls Tryz.prog Γ 222 [fmA f, wayA i b] (int (kindW n b)) := by
 have hlt := lt_of_getElem? hn
 have e43 : ((4 : Int) = 3) = False := eq_false (by decide)
 refine pcalls (ok222 Γ) fun σ => ?_
 cases b
 ·simp only [go_sem, xP, xR, xS, Tryz.f222, hlt, ↓nd_get0 hn]
  exact retP_eq (by simp [kindW])
 ·by_cases h3 : n.kind = 3
  ·simp only [go_sem, xP, xR, xS, Tryz.f222, hlt, ↓nd_get0 hn, h3]
   exact retP_eq (by simp [kindW, h3]; rfl)
  ·by_cases h4 : n.kind = 4
   ·simp only [go_sem, xP, xR, xS, Tryz.f222, hlt, ↓nd_get0 hn, h3, h4, e43]
    exact retP_eq (by simp [kindW, h4]; rfl)
   ·simp only [go_sem, xP, xR, xS, Tryz.f222, hlt, ↓nd_get0 hn, h3, h4]
    exact retP_eq (by simp [kindW, h3, h4])
theorem f223 (f : Fm) (i : Int) (b : Bool) : PCalls Tryz.prog Γ 223 [fmA f, wayA i b] (.fn (.func 252) [] [.pp (fmC f) 0, .pp [int i, .v (.bool b)] 0]) := by
 refine pcalls (ok223 Γ) fun σ => ?_
 simp only [go_sem, xP, xR, xS, Tryz.f223]
def waysX (n : Nd) (b : Bool) : List AV := n.kids.map fun k => wayA k (b != decide (n.kind = 2))
def ownD (n : Nd) : Blk → Prop := fun x => x = .row (ndC n) 4 1
theorem f252 (f : Fm) (i : Nat) (b : Bool) (n : Nd) (hn : f.nodes[i]? = some n) (hl : Fits n.kids.length) : IterE Tryz.prog Γ (ownD n) noD 252 [] [.pp (fmC f) 0, .pp [int i, .v (.bool b)] 0] (fun _ => True) (waysX n b) := by
 have hlt0 := lt_of_getElem? hn
 intro yv σ0 I K _ hI hKs h0 hy hK
 refine acalls (ok252 Γ) ?_
 simp only [List.nil_append, List.cons_append]
 simp only [go_sem, xP, xR, xS, Tryz.f252, hlt0, ↓nd_part hn]
 intro b4 hb4
 simp only [go_sem, xP, xR, xS]
 refine SemC.loopK mixed n.kids.length (fun k ρ σ' ds => ds = [] ∧ ρ 0 = yv ∧ ρ 2 = .pp [int i, .v (.bool b)] 0 ∧ ρ 4 = .v (.pointer (some ⟨b4, 0, none⟩)) ∧ ρ 14 = slI n.kids ∧ ρ 15 = int n.kids.length ∧ ρ 16 = int k ∧ σ' b4 = some (.row (ndC n) 4 1) ∧ I k σ') (by kernel_rfl) ⟨rfl, rfl, rfl, rfl, rfl, rfl, rfl, by simp only [go_sem, xP, xR, xS], by rw [upd_upd]; exact hI 0 _ _ _ (.inl hb4) h0⟩ ?_
 rintro k ρ σ' ds hk ⟨rfl, h0', h2, h4, h14, h15, h16, hs4, hIk⟩
 rcases get_or_end n.kids k hk with ⟨x, hx, hlt, hd⟩ | hk
 ·have hx' : (waysX n b)[k]? = some (wayA x (b != decide (n.kind = 2))) := by simp [waysX, hx]
  simp only [go_sem, xP, xR, xS, h0', h2, h4, h14, h15, h16, hlt, hx, hs4]
  refine callB_mono (fun r σ2 h => ?_) (hy k _ _ hx' hIk)
  rcases h with ⟨hkp, ⟨rfl, h⟩ | ⟨rfl, h⟩⟩
  ·simp only [go_sem, xP, xR, xS, h0', h2, h4, h14, h15, h16]
   exact ⟨hlt, by rw [wrap_succ _ (by omega)], hkp b4 _ hs4 rfl, h⟩
  ·simp only [go_sem, xP, xR, xS, h0', h2, h4, h14, h15, h16]
   exact h
 ·subst hk
  simp only [go_sem, xP, xR, xS, h0', h2, h4, h14, h15, h16, Nat.lt_irrefl]
  exact hK _ (by rw [waysX, List.length_map]; exact hIk)
@[reducible] noncomputable def p146z (Γ : Glob) : Par := par Γ [4, 5, 7, 8, 9, 10, 11, 12, 13] [(1, [false, false, false, false, false, true])] [(1, [0, 1, 3, 7, 0, 31, 63, 127, 127, 0, 767, 2047]), (5, [0, 1, 3, 7, 0, 31]), (13, [0, 1, 3, 7, 0, 31]), (18, [0, 1, 3, 7, 0, 31]), (27, [0, 1, 3, 7, 0, 31]), (31, [0, 0, 2, 6, 14, 30, 62, 126, 254, 510, 1022, 2046, 4094, 8190, 16382, 32767, 65535, 131071]), (33, [0, 1, 3, 7, 0, 0, 63])]
theorem ok146z (Γ : Glob) : FnOk (p146z Γ) 146 138 (Tryz.f146.body.getD .skip) Tryz.f146.results.toList 2 := fnOk (par_mixed _ _ _ _) Tryz.func146 rfl rfl rfl (by kernel_rfl) (Nat.le_of_ble_eq_true rfl) (by kernel_rfl)
def outC (k : Int) (b : Bool) (sub : List (Int × Int)) : Int × Int :=
 if k = 0 then (1, 1) else if k = 1 then (if b then (2, 1) else (1, 2)) else if k = 2 then sub.getLastD (1, 0)
 else if k = 3 then (if sub.any (fun n => decide (n = (0, 0))) then (0, 0) else sub.foldl (fun o n => (min (o.1 * n.1) 65, o.2 + n.2)) (1, 0))
 else if k = 4 then sub.foldl (fun o n => (min (o.1 + n.1) 65, max o.2 n.2)) (0, 0) else (1, 0)
def cntF (l : List Nd) : Nat → WayT → Int × Int
 | 0, _ => (0, 0)
 | fuel + 1, w => match l[w.1.toNat]? with
  | none => (0, 0)
  | some n =>
   let o := outC (kindW n w.2) w.2 (n.kids.map fun x => cntF l fuel (x, w.2 != decide (n.kind = 2)))
   (o.1, min o.2 33)
def cntW (l : List Nd) (w : WayT) : Int × Int := cntF l (w.1.toNat + 1) w
def reachFX (l : List Nd) : Nat → WayT → List WayT
 | 0, _ => []
 | fuel + 1, w => match l[w.1.toNat]? with
  | none => []
  | some n => w :: n.kids.flatMap fun x => reachFX l fuel (x, w.2 != decide (n.kind = 2))
def reachW (l : List Nd) (w : WayT) : List WayT := reachFX l (w.1.toNat + 1) w
def badC (c : Int × Int) : Bool := decide (64 < c.1) || decide (32 < c.2)
def badW (l : List Nd) (w : WayT) : Bool := (reachW l w).any fun v => badC (cntW l v)
def cntA (c : Int × Int) : AV := .agg [int c.1, int c.2]
def MemoC (l : List Nd) (m : List (WayT × AV)) (bad : Bool) : Prop := ∀ p ∈ m, p.2 = cntA (cntW l p.1) ∧ (badW l p.1 = true → bad = true)
def KidsDown (l : List Nd) : Prop := ∀ (k : Nat) (n : Nd), l[k]? = some n → ∀ x ∈ n.kids, 0 ≤ x ∧ x < (k : Int)
theorem cntF_st {l : List Nd} (hd : KidsDown l) : ∀ (fuel fuel' : Nat) (w : WayT), w.1.toNat < fuel → w.1.toNat < fuel' → cntF l fuel w = cntF l fuel' w
 | 0, _, _, h, _ => by omega
 | _ + 1, 0, _, _, h => by omega
 | fuel + 1, fuel' + 1, w, h, h' => by
  rw [cntF, cntF]
  cases hn : l[w.1.toNat]? with
  | none => rfl
  | some n =>
   have e : (n.kids.map fun x => cntF l fuel (x, w.2 != decide (n.kind = 2))) = n.kids.map fun x => cntF l fuel' (x, w.2 != decide (n.kind = 2)) := by
    refine List.map_congr_left fun x hx => ?_
    have := hd _ _ hn x hx
    exact cntF_st hd fuel fuel' _ (by simp only; omega) (by simp only; omega)
   simp only [e]
theorem cntW_eq {l : List Nd} (hd : KidsDown l) {i : Nat} {n : Nd} (hn : l[i]? = some n) (b : Bool) : cntW l ((i : Int), b) = ((outC (kindW n b) b (n.kids.map fun x => cntW l (x, b != decide (n.kind = 2)))).1, min (outC (kindW n b) b (n.kids.map fun x => cntW l (x, b != decide (n.kind = 2)))).2 33) := by
 have e : (n.kids.map fun x => cntF l i (x, b != decide (n.kind = 2))) = n.kids.map fun x => cntW l (x, b != decide (n.kind = 2)) := by
  refine List.map_congr_left fun x hx => ?_
  have := hd _ _ hn x hx
  exact cntF_st hd _ _ _ (by simp only; omega) (by simp only; omega)
 rw [cntW]
 simp only [Int.toNat_natCast, cntF, hn, e]
theorem reachF_st {l : List Nd} (hd : KidsDown l) : ∀ (fuel fuel' : Nat) (w : WayT), w.1.toNat < fuel → w.1.toNat < fuel' → reachFX l fuel w = reachFX l fuel' w
 | 0, _, _, h, _ => by omega
 | _ + 1, 0, _, _, h => by omega
 | fuel + 1, fuel' + 1, w, h, h' => by
  rw [reachFX, reachFX]
  cases hn : l[w.1.toNat]? with
  | none => rfl
  | some n =>
   have e : (n.kids.flatMap fun x => reachFX l fuel (x, w.2 != decide (n.kind = 2))) = n.kids.flatMap fun x => reachFX l fuel' (x, w.2 != decide (n.kind = 2)) := by
    rw [List.flatMap_def, List.flatMap_def]
    congr 1
    refine List.map_congr_left fun x hx => ?_
    have := hd _ _ hn x hx
    exact reachF_st hd fuel fuel' _ (by simp only; omega) (by simp only; omega)
   simp only [e]
theorem badW_eq {l : List Nd} (hd : KidsDown l) {i : Nat} {n : Nd} (hn : l[i]? = some n) (b : Bool) : badW l ((i : Int), b) = (badC (cntW l ((i : Int), b)) || n.kids.any fun x => badW l (x, b != decide (n.kind = 2))) := by
 have e : (n.kids.flatMap fun x => reachFX l i (x, b != decide (n.kind = 2))) = n.kids.flatMap fun x => reachW l (x, b != decide (n.kind = 2)) := by
  rw [List.flatMap_def, List.flatMap_def]
  congr 1
  refine List.map_congr_left fun x hx => ?_
  have := hd _ _ hn x hx
  exact reachF_st hd _ _ _ (by simp only; omega) (by simp only; omega)
 have r : reachW l ((i : Int), b) = ((i : Int), b) :: n.kids.flatMap fun x => reachW l (x, b != decide (n.kind = 2)) := by
  rw [reachW]
  simp only [Int.toNat_natCast, reachFX, hn, e]
 rw [badW, r, List.any_cons, List.any_flatMap]
 rfl
theorem zero234 (w : World) (σ : Sig) : ∃ v, (zeroValue 234).run Tryz.prog w = .ok v w ∧ Rep w σ (cntA (0, 0)) v := by
 obtain ⟨z, hz, hzz⟩ := run_zero_tk tk234 w
 refine ⟨z, hz, ?_⟩
 cases z with
 | agg cs =>
  have h : Reps w σ [int 0, int 0] cs.toList := by
   have e : [int 0, int 0] = cs.toList.map .v := hzz
   rw [e]
   exact Reps.vs _
  exact .agg h
 | _ => exact absurd (congrArg List.length hzz) (by simp [Value.cells])
theorem getW_mem {m : List (WayT × AV)} {w : WayT} {x : AV} (h : getW m w = some x) : (w, x) ∈ m := by
 induction m with
 | nil => cases h
 | cons p m ih =>
  rw [getW] at h
  split at h
  ·rename_i hw
   cases h
   subst hw
   simp
  ·exact List.mem_cons_of_mem _ (ih h)
theorem MemoC.add {l : List Nd} {m : List (WayT × AV)} {bad bad' : Bool} {w : WayT} (h : MemoC l m bad) (hb : bad = true → bad' = true) (hw : badW l w = true → bad' = true) : MemoC l (m ++ [(w, cntA (cntW l w))]) bad' := by
 intro p hp
 rcases List.mem_append.1 hp with hp | hp
 ·exact ⟨(h p hp).1, fun hh => hb ((h p hp).2 hh)⟩
 ·rw [List.mem_singleton] at hp
  subst hp
  exact ⟨rfl, hw⟩
theorem fin146 {l : List Nd} (hd : KidsDown l) {i : Nat} {n : Nd} (hn : l[i]? = some n) {b : Bool} {m1 : List (WayT × AV)} {bad bad1 bad2 : Bool} {o : Int × Int} (hm : MemoC l m1 bad1) (hO : outC (kindW n b) b (n.kids.map fun x => cntW l (x, b != decide (n.kind = 2))) = o)
  (h01 : bad = true → bad1 = true) (hk : ∀ x ∈ n.kids, badW l (x, b != decide (n.kind = 2)) = true → bad1 = true) (h1 : bad1 = true → bad = true ∨ n.kids.any (fun x => badW l (x, b != decide (n.kind = 2))) = true) (h2 : bad2 = (bad1 || badC (o.1, min o.2 33))) :
  cntW l ((i : Int), b) = (o.1, min o.2 33) ∧ MemoC l (m1 ++ [(((i : Int), b), cntA (o.1, min o.2 33))]) bad2 ∧ (bad = true → bad2 = true) ∧ (badW l ((i : Int), b) = true → bad2 = true) ∧ (bad2 = true → bad = true ∨ badW l ((i : Int), b) = true) := by
 have e : cntW l ((i : Int), b) = (o.1, min o.2 33) := by rw [cntW_eq hd hn, hO]
 have eb := badW_eq hd hn b
 rw [e] at eb
 have hw : badW l ((i : Int), b) = true → bad2 = true := fun h => by
  rw [eb, Bool.or_eq_true] at h
  rw [h2, Bool.or_eq_true]
  rcases h with h | h
  ·exact .inr h
  ·obtain ⟨x, hx, hb⟩ := List.any_eq_true.1 h
   exact .inl (hk x hx hb)
 have hb2 : bad1 = true → bad2 = true := fun h => by rw [h2, h]; rfl
 refine ⟨e, ?_, fun h => hb2 (h01 h), hw, fun h => ?_⟩
 ·have := hm.add hb2 hw
  rwa [e] at this
 ·rw [h2, Bool.or_eq_true] at h
  rcases h with h | h
  ·rcases h1 h with h | h
   ·exact .inl h
   ·exact .inr (by rw [eb, h, Bool.or_true])
  ·exact .inr (by rw [eb, h, Bool.true_or])
def cntRow (f : Fm) (bm : Nat) (bad : Bool) : Blk := .row [int f.vars, slN f.nodes, .v (.map (some bm)), .v (.bool bad)] 4 1
theorem us231 : Tryz.prog.underlying 231 = some (.map 229 234) := by kernel_rfl
def bdC (c : Int × Int) : Prop := 0 ≤ c.1 ∧ c.1 ≤ 65 ∧ 0 ≤ c.2 ∧ c.2 ≤ 33
def stepA (o n : Int × Int) : Int × Int := (min (o.1 * n.1) 65, o.2 + n.2)
def stepO (o n : Int × Int) : Int × Int := (min (o.1 + n.1) 65, max o.2 n.2)
theorem foldA_bd : ∀ (sub : List (Int × Int)) (o : Int × Int), (∀ n ∈ sub, bdC n) → 0 ≤ o.1 → o.1 ≤ 65 → 0 ≤ o.2 → 0 ≤ (sub.foldl stepA o).1 ∧ (sub.foldl stepA o).1 ≤ 65 ∧ 0 ≤ (sub.foldl stepA o).2 ∧ (sub.foldl stepA o).2 ≤ o.2 + 33 * sub.length
 | [], o, _, h1, h2, h3 => ⟨h1, h2, h3, by simp⟩
 | n :: sub, o, h, h1, h2, h3 => by
  obtain ⟨b1, b2, b3, b4⟩ := h n (by simp)
  have hm : 0 ≤ o.1 * n.1 := Int.mul_nonneg h1 b1
  obtain ⟨a1, a2, a3, a4⟩ := foldA_bd sub (stepA o n) (fun x hx => h x (List.mem_cons_of_mem _ hx)) (by simp only [stepA]; omega) (by simp only [stepA]; omega) (by simp only [stepA]; omega)
  refine ⟨a1, a2, a3, ?_⟩
  rw [List.foldl_cons]
  simp only [stepA] at a4 ⊢
  simp only [List.length_cons, Int.natCast_add, Int.cast_ofNat_Int]
  omega
theorem foldO_bd : ∀ (sub : List (Int × Int)) (o : Int × Int), (∀ n ∈ sub, bdC n) → bdC o → bdC (sub.foldl stepO o)
 | [], o, _, h => h
 | n :: sub, o, h, h1 => by
  obtain ⟨b1, b2, b3, b4⟩ := h n (by simp)
  obtain ⟨c1, c2, c3, c4⟩ := h1
  exact foldO_bd sub (stepO o n) (fun x hx => h x (List.mem_cons_of_mem _ hx)) ⟨by simp only [stepO]; omega, by simp only [stepO]; omega, by simp only [stepO]; omega, by simp only [stepO]; omega⟩
theorem out_bd (k : Int) (b : Bool) (sub : List (Int × Int)) (h : ∀ n ∈ sub, bdC n) : 0 ≤ (outC k b sub).1 ∧ (outC k b sub).1 ≤ 65 ∧ 0 ≤ (outC k b sub).2 := by
 unfold outC
 split
 ·decide
 split
 ·cases b <;> decide
 split
 ·cases hs : sub.getLast? with
  | none =>
   rw [List.getLastD_eq_getLast?, hs]
   decide
  | some x =>
   rw [List.getLastD_eq_getLast?, hs]
   obtain ⟨b1, b2, b3, b4⟩ := h x (List.mem_of_getLast? hs)
   exact ⟨b1, b2, b3⟩
 split
 ·split
  ·decide
  ·obtain ⟨a1, a2, a3, a4⟩ := foldA_bd sub (1, 0) h (by decide) (by decide) (by decide)
   exact ⟨a1, a2, a3⟩
 split
 ·obtain ⟨a1, a2, a3, a4⟩ := foldO_bd sub (0, 0) h (by simp [bdC])
  exact ⟨a1, a2, a3⟩
 ·decide
theorem cntF_bd (l : List Nd) : ∀ (fuel : Nat) (w : WayT), bdC (cntF l fuel w)
 | 0, w => by simp [cntF, bdC]
 | fuel + 1, w => by
  rw [cntF]
  cases hn : l[w.1.toNat]? with
  | none => simp [bdC]
  | some n =>
   obtain ⟨a1, a2, a3⟩ := out_bd (kindW n w.2) w.2 (n.kids.map fun x => cntF l fuel (x, w.2 != decide (n.kind = 2))) (fun c hc => by
    obtain ⟨x, _, rfl⟩ := List.mem_map.1 hc
    exact cntF_bd l fuel _)
   exact ⟨a1, a2, by simp only; omega, by simp only; omega⟩
theorem cntW_bd (l : List Nd) (w : WayT) : bdC (cntW l w) := cntF_bd l _ w
def Frm (bc bm : Nat) (σ σ' : Sig) : Prop := ∀ x y, x ≠ bc → x ≠ bm → σ x = some y → σ' x = some y
theorem Frm.refl {bc bm : Nat} {σ : Sig} : Frm bc bm σ σ := fun _ _ _ _ h => h
theorem Frm.new {bc bm : Nat} {σ σ' : Sig} {b : Nat} (h : Frm bc bm σ σ') (hb : σ b = none) (y : Option Blk) : Frm bc bm σ (upd σ' b y) := fun x z h1 h2 h3 => by
 rw [upd_ne _ _ _ _ (fun e => by rw [e, hb] at h3; cases h3)]
 exact h x z h1 h2 h3
theorem Frm.fresh {bc bm : Nat} {σ σ' : Sig} {b : Nat} (h : Frm bc bm σ σ') (hb : σ' b = none) (y : Option Blk) : Frm bc bm σ (upd σ' b y) := fun x z h1 h2 h3 => by
 have := h x z h1 h2 h3
 rw [upd_ne _ _ _ _ (fun e => by rw [e, hb] at this; cases this)]
 exact this
theorem Frm.own {bc bm : Nat} {σ σ' : Sig} {b : Nat} (h : Frm bc bm σ σ') (hb : b = bc ∨ b = bm) (y : Option Blk) : Frm bc bm σ (upd σ' b y) := fun x z h1 h2 h3 => by
 rw [upd_ne _ _ _ _ (fun e => by rcases hb with hb | hb <;> rw [hb] at e <;> contradiction)]
 exact h x z h1 h2 h3
theorem Frm.trans {bc bm : Nat} {σ σ1 σ2 : Sig} (h : Frm bc bm σ σ1) (h' : Frm bc bm σ1 σ2) : Frm bc bm σ σ2 := fun x y h1 h2 h3 => h' x y h1 h2 (h x y h1 h2 h3)
theorem Frm.closed {bc bm : Nat} {σ σ0 : Sig} (h0 : ∀ b, σ b = none → σ0 b = none) : Closed noD σ fun σ' => Frm bc bm σ0 σ' := fun σ' b z hb h x y h1 h2 h3 => by
 rw [upd_ne]
 ·exact h x y h1 h2 h3
 ·intro e
  subst e
  have := h x y h1 h2 h3
  rcases hb with hb | ⟨hb, _⟩ | ⟨w, hb, hw⟩
  ·rw [this] at hb; cases hb
  ·rw [h0 x hb] at h3; cases h3
  ·exact hw
theorem Frm.keep {n : Nd} {bc bm : Nat} {σ σ' : Sig} {cs : List AV} {s c : Nat} {es : List (AV × AV)} (hbc : σ bc = some (.row cs s c)) (hnc : ¬ ownD n (.row cs s c)) (hbm : σ bm = some (.map es)) (h : Frm bc bm σ σ') : Keep (KD (ownD n)) σ σ' := fun b y hb hy => by
 refine h b y ?_ ?_ hb
 ·intro e
  rw [e, hbc] at hb
  cases hb
  rcases hy with hy | hy
  ·exact hy
  ·exact hnc hy
 ·intro e
  rw [e, hbm] at hb
  cases hb
  rcases hy with hy | hy
  ·exact hy
  ·cases hy
theorem own_row {n : Nd} {cs : List AV} {s c : Nat} (h : s ≠ 4) : ¬ ownD n (.row cs s c) := fun e => by
 have e : Blk.row cs s c = .row (ndC n) 4 1 := e
 injection e with _ e2 _
 exact h e2
theorem own_cnt {n : Nd} {f : Fm} {bm : Nat} {bad : Bool} : ¬ ownD n (cntRow f bm bad) := fun e => by
 have e : cntRow f bm bad = .row (ndC n) 4 1 := e
 simp [cntRow, ndC, int] at e
theorem own_ctl {n : Nd} : ∀ x, ownD n x → ¬ Ctl x := fun x h k => by rw [h] at k; exact k
theorem minI (a b : Int) : (if b < a then b else a) = min a b := by split <;> omega
theorem maxI (a b : Int) : (if a < b then b else a) = max a b := by split <;> omega
structure Mid (l : List Nd) (i : Nat) (n : Nd) (b : Bool) (m : List (WayT × AV)) (bad : Bool) (k : Nat) (m1 : List (WayT × AV)) (bad1 : Bool) : Prop where
 memo : MemoC l m1 bad1
 up : bad = true → bad1 = true
 kids : ∀ x ∈ n.kids.take k, badW l (x, b != decide (n.kind = 2)) = true → bad1 = true
 why : bad1 = true → bad = true ∨ (n.kids.take k).any (fun x => badW l (x, b != decide (n.kind = 2))) = true
 new : ∀ p ∈ m1, p ∈ m ∨ p.1.1 < (i : Int)
theorem Mid.zero {l : List Nd} {i : Nat} {n : Nd} {b : Bool} {m : List (WayT × AV)} {bad : Bool} (h : MemoC l m bad) : Mid l i n b m bad 0 m bad :=
 ⟨h, fun h => h, fun x hx => by simp at hx, fun h => .inl h, fun p hp => .inl hp⟩
theorem Mid.succ {l : List Nd} {i : Nat} {n : Nd} {b : Bool} {m m1 m2 : List (WayT × AV)} {bad bad1 bad2 : Bool} {k : Nat} {x : Int} (h : Mid l i n b m bad k m1 bad1) (hx : n.kids[k]? = some x) (hxi : x < (i : Int)) (h1 : MemoC l m2 bad2) (h2 : bad1 = true → bad2 = true) (h3 : badW l (x, b != decide (n.kind = 2)) = true → bad2 = true) (h4 : bad2 = true → bad1 = true ∨ badW l (x, b != decide (n.kind = 2)) = true) (h5 : ∀ p ∈ m2, p ∈ m1 ∨ p.1.1 ≤ x) : Mid l i n b m bad (k + 1) m2 bad2 := by
 have e : n.kids.take (k + 1) = n.kids.take k ++ [x] := take_succ hx
 refine ⟨h1, fun hb => h2 (h.up hb), fun y hy hb => ?_, fun hb => ?_, fun p hp => ?_⟩
 ·rw [e, List.mem_append, List.mem_singleton] at hy
  rcases hy with hy | rfl
  ·exact h2 (h.kids y hy hb)
  ·exact h3 hb
 ·rw [e, List.any_append]
  rcases h4 hb with hb | hb
  ·rcases h.why hb with hb | hb
   ·exact .inl hb
   ·exact .inr (by rw [hb, Bool.true_or])
  ·exact .inr (by simp [hb])
 ·rcases h5 p hp with hp | hp
  ·exact h.new p hp
  ·exact .inr (by omega)
theorem getW_none {m m1 : List (WayT × AV)} {i : Nat} {b : Bool} (h : getW m ((i : Int), b) = none) (hn : ∀ p ∈ m1, p ∈ m ∨ p.1.1 < (i : Int)) : getW m1 ((i : Int), b) = none := by
 cases h1 : getW m1 ((i : Int), b) with
 | none => rfl
 | some x =>
  rcases hn _ (getW_mem h1) with hp | hp
  ·exact absurd h (by
    have key : ∀ (m : List (WayT × AV)), (((i : Int), b), x) ∈ m → getW m ((i : Int), b) ≠ none := by
     intro m
     induction m with
     | nil => intro h; cases h
     | cons p m ih =>
      intro hp hc
      rw [getW] at hc
      split at hc
      ·cases hc
      ·rename_i hne
       rcases List.mem_cons.1 hp with e | e
       ·exact hne (by rw [← e])
       ·exact ih e hc
    exact key m hp)
  ·exact absurd hp (by simp)
def subC (l : List Nd) (n : Nd) (b : Bool) : List (Int × Int) := n.kids.map fun x => cntW l (x, b != decide (n.kind = 2))
theorem subC_get {l : List Nd} {n : Nd} {b : Bool} {k : Nat} {x : Int} (h : n.kids[k]? = some x) : (subC l n b)[k]? = some (cntW l (x, b != decide (n.kind = 2))) := by simp [subC, h]
theorem subC_len {l : List Nd} {n : Nd} {b : Bool} : (subC l n b).length = n.kids.length := by simp [subC]
theorem subC_bd {l : List Nd} {n : Nd} {b : Bool} : ∀ c ∈ subC l n b, bdC c := fun c hc => by
 obtain ⟨x, _, rfl⟩ := List.mem_map.1 hc
 exact cntW_bd _ _
theorem waysX_get {n : Nd} {b : Bool} {k : Nat} {x : AV} (h : (waysX n b)[k]? = some x) : ∃ c, n.kids[k]? = some c ∧ x = wayA c (b != decide (n.kind = 2)) := by
 rw [waysX, List.getElem?_map] at h
 cases hn : n.kids[k]? with
 | none => rw [hn] at h; cases h
 | some c => rw [hn] at h; exact ⟨c, rfl, (Option.some.inj h).symm⟩
theorem waysX_len {n : Nd} {b : Bool} : (waysX n b).length = n.kids.length := by simp [waysX]
def anyZ (l : List (Int × Int)) : Bool := l.any fun n => decide (n = (0, 0))
theorem anyZ_snoc (l : List (Int × Int)) (x : Int × Int) : anyZ (l ++ [x]) = (anyZ l || (decide (x.1 = 0) && decide (x.2 = 0))) := by
 obtain ⟨a, b⟩ := x
 rw [anyZ, List.any_append, anyZ]
 simp
theorem mul65 {a b : Int} (h1 : 0 ≤ a) (h2 : a ≤ 65) (h3 : 0 ≤ b) (h4 : b ≤ 65) : 0 ≤ a * b ∧ a * b ≤ 4225 := ⟨Int.mul_nonneg h1 h3, by
 have := Int.mul_le_mul h2 h4 h3 (by decide)
 omega⟩
theorem hdown {f : Fm} (hok : ∀ k n, f.nodes[k]? = some n → NodeOk n k f.vars) : KidsDown f.nodes := fun k n hn x hx => by
 have h := hok k n hn
 by_cases h1 : n.kind ≤ 1
 ·rw [(h.term h1).2.2] at hx
  cases hx
 ·exact (h.form (by omega)).2.2.2 x hx
set_option maxHeartbeats 4000000 in
set_option maxRecDepth 20000 in
theorem f146 (f : Fm) (hG2 : Γ 2 = some [int 0, int 0]) (hl : Fits f.nodes.length) (hc : ∀ n ∈ f.nodes, NdFit n) (hok : ∀ k n, f.nodes[k]? = some n → NodeOk n k f.vars) (bc bm : Nat) : ∀ (N i : Nat) (b : Bool) (n : Nd) (m : List (WayT × AV)) (bad : Bool) (σ : Sig) (K : AV → Sig → Prop), i < N → f.nodes[i]? = some n →
  σ bc = some (cntRow f bm bad) → σ bm = some (.map (mapW m)) → MemoC f.nodes m bad →
  (∀ m' bad' σ', MemoC f.nodes m' bad' → (bad = true → bad' = true) → (badW f.nodes (i, b) = true → bad' = true) → (bad' = true → bad = true ∨ badW f.nodes (i, b) = true) → (∀ p ∈ m', p ∈ m ∨ p.1.1 ≤ (i : Int)) → σ' bc = some (cntRow f bm bad') → σ' bm = some (.map (mapW m')) →
   Frm bc bm σ σ' → K (cntA (cntW f.nodes (i, b))) σ') →
  ACalls Tryz.prog Γ 146 [.v (.pointer (some ⟨bc, 0, none⟩)), wayA i b] σ K := by
 have hd := hdown hok
 intro N
 induction N with
 | zero => intro i b n m bad σ K hi; omega
 | succ N ih =>
  intro i b n m bad σ K hi hn hbc hbm hm hK
  have hok1 := hok i n hn
  have hkf := (hc n (mem_of_get hn)).2
  have kbc : ¬ bm = bc := fun e => by rw [e, hbc] at hbm; cases hbm
  have kbc' : ¬ bc = bm := fun e => kbc e.symm
  refine acalls (ok146z Γ) ?_
  simp only [go_sem, xP, xR, xS, Tryz.f146]
  intro b4 hb4
  have m4 : ¬ bc = b4 := nn hb4 hbc
  have m4' : ¬ b4 = bc := fun e => m4 e.symm
  have k4 : ¬ bm = b4 := nn hb4 hbm
  have k4' : ¬ b4 = bm := fun e => k4 e.symm
  have hbc' : σ bc = some (.row [int f.vars, slN f.nodes, .v (.map (some bm)), .v (.bool bad)] 4 1) := hbc
  simp only [go_sem, xP, xR, xS, hbc', m4, m4', k4]
  cases hg : getW m (i, b) with
  | some x =>
   obtain ⟨hx, hxb⟩ := hm _ (getW_mem hg)
   dsimp only at hx
   subst hx
   refine rlookB_way (a := (i, b)) us231 way229 (fun w σ => zero234 w σ) (l := m) (by rw [upd_ne _ _ _ _ k4]; exact hbm) ?_
   rw [hg]
   dsimp only
   simp only [go_sem, xP, xR, xS, hbc', m4, m4', k4, cntA]
   intro b5 hb5
   obtain ⟨n54, hb5⟩ := un hb5
   have n54' : ¬ b4 = b5 := fun e => n54 e.symm
   simp only [go_sem, xP, xR, xS, hbc', m4, m4', k4, cntA, n54, n54']
   refine hK m bad _ hm (fun h => h) hxb (fun h => .inl h) (fun p hp => .inl hp) ?_ ?_ ((Frm.refl.new hb4 _).new hb5 _ |>.new hb4 _)
   ·rw [upd_ne _ _ _ _ m4, upd_ne _ _ _ _ (nn hb5 hbc), upd_ne _ _ _ _ m4]; exact hbc
   ·rw [upd_ne _ _ _ _ k4, upd_ne _ _ _ _ (nn hb5 hbm), upd_ne _ _ _ _ k4]; exact hbm
  | none =>
   refine rlookB_way (a := (i, b)) us231 way229 (fun w σ => zero234 w σ) (l := m) (by rw [upd_ne _ _ _ _ k4]; exact hbm) ?_
   rw [hg]
   dsimp only
   simp only [go_sem, xP, xR, xS, hbc', m4, m4', k4, cntA]
   intro b5 hb5
   obtain ⟨n54, hb5⟩ := un hb5
   have n54' : ¬ b4 = b5 := fun e => n54 e.symm
   have m5 : ¬ bc = b5 := nn hb5 hbc
   have m5' : ¬ b5 = bc := fun e => m5 e.symm
   have k5 : ¬ bm = b5 := nn hb5 hbm
   have k5' : ¬ b5 = bm := fun e => k5 e.symm
   simp only [go_sem, xP, xR, xS, hbc', m4, m4', k4, cntA, n54, n54', m5, m5', k5]
   intro b7 hb7
   obtain ⟨n75, hb7⟩ := un hb7
   obtain ⟨n74, hb7⟩ := un hb7
   have n75' : ¬ b5 = b7 := fun e => n75 e.symm
   have n74' : ¬ b4 = b7 := fun e => n74 e.symm
   have m7 : ¬ bc = b7 := nn hb7 hbc
   have m7' : ¬ b7 = bc := fun e => m7 e.symm
   have k7 : ¬ bm = b7 := nn hb7 hbm
   have k7' : ¬ b7 = bm := fun e => k7 e.symm
   simp only [go_sem, xP, xR, xS, hbc', m4, m4', k4, cntA, n54, n54', m5, m5', k5, n75, n75', n74, n74', m7, m7', k7]
   refine callB_use (f222 f i b n hn) rfl ?_
   simp only [go_sem, xP, xR, xS, hbc', m4, m4', k4, cntA, n54, n54', m5, m5', k5, n75, n75', n74, n74', m7, m7', k7]
   have e10 : ((1 : Int) = 0) = False := eq_false (by decide)
   have e20 : ((2 : Int) = 0) = False := eq_false (by decide)
   have e21 : ((2 : Int) = 1) = False := eq_false (by decide)
   have e30 : ((3 : Int) = 0) = False := eq_false (by decide)
   have e31 : ((3 : Int) = 1) = False := eq_false (by decide)
   have e32 : ((3 : Int) = 2) = False := eq_false (by decide)
   have e40 : ((4 : Int) = 0) = False := eq_false (by decide)
   have e41 : ((4 : Int) = 1) = False := eq_false (by decide)
   have e42 : ((4 : Int) = 2) = False := eq_false (by decide)
   have e43 : ((4 : Int) = 3) = False := eq_false (by decide)
   have hkw : kindW n b = 0 ∨ kindW n b = 1 ∨ kindW n b = 2 ∨ kindW n b = 3 ∨ kindW n b = 4 := by
    have := hok1.lo
    have := hok1.hi
    unfold kindW
    split <;> omega
   rcases hkw with hk | hk | hk | hk | hk
   ·have hkids : n.kids = [] := (hok1.term (by unfold kindW at hk; split at hk <;> omega)).2.2
    have hMM : Mid f.nodes i n b m bad n.kids.length m bad := by rw [hkids]; exact Mid.zero hm
    have hO : outC (kindW n b) b (n.kids.map fun x => cntW f.nodes (x, b != decide (n.kind = 2))) = (1, 1) := by rw [hk]; rfl
    simp only [go_sem, xP, xR, xS, hbc', m4, m4', k4, cntA, n54, n54', m5, m5', k5, n75, n75', n74, n74', m7, m7', k7, hk]
    cases bad with
    | true =>
     simp only [go_sem, xP, xR, xS, hbc', m4, m4', k4, cntA, n54, n54', m5, m5', k5, n75, n75', n74, n74', m7, m7', k7, hk]
     refine mupB_way (a := (i, _)) us231 way229 (l := m) (by simp only [upd, m4, m4', k4, n54, n54', m5, m5', k5, n75, n75', n74, n74', m7, m7', k7, kbc, kbc', k4', k7', if_false, if_true, ↓reduceIte]; exact hbm) hg ?_
     simp only [go_sem, xP, xR, xS, m4, m4', k4, n54, n54', m5, m5', k5, n75, n75', n74, n74', m7, m7', k7, kbc, kbc', k4', k7', hbc', cntA]
     have hK' := fun bad2 (h2 : bad2 = (true || badC (((1 : Int), (1 : Int)).1, min ((1 : Int), (1 : Int)).2 33))) => let ⟨e, h1, h3, h4, h5⟩ := fin146 hd hn hMM.memo hO hMM.up (fun x hx => hMM.kids x (by rw [List.take_length]; exact hx)) (by have := hMM.why; rw [List.take_length] at this; exact this) h2; (fun σ' h6 h7 h8 h9 => (e ▸ hK _ bad2 σ' h1 h3 h4 h5 h6 h7 h8 h9 : K (cntA (((1 : Int), (1 : Int)).1, min ((1 : Int), (1 : Int)).2 33)) σ'))
     refine hK' true (by first | decide | simp [badC]) _ (fun p hp => ?_) ?_ ?_ ?_
     ·rcases List.mem_append.1 hp with hp | hp
      ·rcases hMM.new p hp with hp | hp
       ·exact .inl hp
       ·exact .inr (Int.le_of_lt hp)
      ·rw [List.mem_singleton] at hp
       subst hp
       exact .inr (Int.le_refl _)
     ·simp only [xS, upd, m4, m4', k4, n54, n54', m5, m5', k5, n75, n75', n74, n74', m7, m7', k7, kbc, kbc', k4', k7', if_false, if_true, ↓reduceIte]; rfl
     ·simp only [xS, upd, m4, m4', k4, n54, n54', m5, m5', k5, n75, n75', n74, n74', m7, m7', k7, kbc, kbc', k4', k7', if_false, if_true, ↓reduceIte]; rfl
     ·skip
      repeat (first | exact Frm.refl | exact hF | refine Frm.new ?_ hb4 _ | refine Frm.new ?_ hb5 _ | refine Frm.new ?_ hb7 _ | refine Frm.new ?_ hr0 _ | refine Frm.own ?_ (.inl rfl) _ | refine Frm.own ?_ (.inr rfl) _)
    | false =>
     simp only [go_sem, xP, xR, xS, hbc', m4, m4', k4, cntA, n54, n54', m5, m5', k5, n75, n75', n74, n74', m7, m7', k7, hk]
     refine mupB_way (a := (i, _)) us231 way229 (l := m) (by simp only [upd, m4, m4', k4, n54, n54', m5, m5', k5, n75, n75', n74, n74', m7, m7', k7, kbc, kbc', k4', k7', if_false, if_true, ↓reduceIte]; exact hbm) hg ?_
     simp only [go_sem, xP, xR, xS, m4, m4', k4, n54, n54', m5, m5', k5, n75, n75', n74, n74', m7, m7', k7, kbc, kbc', k4', k7', hbc', cntA]
     have hK' := fun bad2 (h2 : bad2 = (false || badC (((1 : Int), (1 : Int)).1, min ((1 : Int), (1 : Int)).2 33))) => let ⟨e, h1, h3, h4, h5⟩ := fin146 hd hn hMM.memo hO hMM.up (fun x hx => hMM.kids x (by rw [List.take_length]; exact hx)) (by have := hMM.why; rw [List.take_length] at this; exact this) h2; (fun σ' h6 h7 h8 h9 => (e ▸ hK _ bad2 σ' h1 h3 h4 h5 h6 h7 h8 h9 : K (cntA (((1 : Int), (1 : Int)).1, min ((1 : Int), (1 : Int)).2 33)) σ'))
     refine hK' false (by first | decide | simp [badC]) _ (fun p hp => ?_) ?_ ?_ ?_
     ·rcases List.mem_append.1 hp with hp | hp
      ·rcases hMM.new p hp with hp | hp
       ·exact .inl hp
       ·exact .inr (Int.le_of_lt hp)
      ·rw [List.mem_singleton] at hp
       subst hp
       exact .inr (Int.le_refl _)
     ·simp only [xS, upd, m4, m4', k4, n54, n54', m5, m5', k5, n75, n75', n74, n74', m7, m7', k7, kbc, kbc', k4', k7', if_false, if_true, ↓reduceIte]; rfl
     ·simp only [xS, upd, m4, m4', k4, n54, n54', m5, m5', k5, n75, n75', n74, n74', m7, m7', k7, kbc, kbc', k4', k7', if_false, if_true, ↓reduceIte]; rfl
     ·skip
      repeat (first | exact Frm.refl | exact hF | refine Frm.new ?_ hb4 _ | refine Frm.new ?_ hb5 _ | refine Frm.new ?_ hb7 _ | refine Frm.new ?_ hr0 _ | refine Frm.own ?_ (.inl rfl) _ | refine Frm.own ?_ (.inr rfl) _)
   ·have hkids : n.kids = [] := (hok1.term (by unfold kindW at hk; split at hk <;> omega)).2.2
    have hMM : Mid f.nodes i n b m bad n.kids.length m bad := by rw [hkids]; exact Mid.zero hm
    cases b with
    | true =>
     have hO : outC (kindW n true) true (n.kids.map fun x => cntW f.nodes (x, true != decide (n.kind = 2))) = (2, 1) := by rw [hk]; rfl
     simp only [go_sem, xP, xR, xS, hbc', m4, m4', k4, cntA, n54, n54', m5, m5', k5, n75, n75', n74, n74', m7, m7', k7, hk, e10]
     cases bad with
     | true =>
      simp only [go_sem, xP, xR, xS, hbc', m4, m4', k4, cntA, n54, n54', m5, m5', k5, n75, n75', n74, n74', m7, m7', k7, hk]
      refine mupB_way (a := (i, _)) us231 way229 (l := m) (by simp only [upd, m4, m4', k4, n54, n54', m5, m5', k5, n75, n75', n74, n74', m7, m7', k7, kbc, kbc', k4', k7', if_false, if_true, ↓reduceIte]; exact hbm) hg ?_
      simp only [go_sem, xP, xR, xS, m4, m4', k4, n54, n54', m5, m5', k5, n75, n75', n74, n74', m7, m7', k7, kbc, kbc', k4', k7', hbc', cntA]
      have hK' := fun bad2 (h2 : bad2 = (true || badC (((2 : Int), (1 : Int)).1, min ((2 : Int), (1 : Int)).2 33))) => let ⟨e, h1, h3, h4, h5⟩ := fin146 hd hn hMM.memo hO hMM.up (fun x hx => hMM.kids x (by rw [List.take_length]; exact hx)) (by have := hMM.why; rw [List.take_length] at this; exact this) h2; (fun σ' h6 h7 h8 h9 => (e ▸ hK _ bad2 σ' h1 h3 h4 h5 h6 h7 h8 h9 : K (cntA (((2 : Int), (1 : Int)).1, min ((2 : Int), (1 : Int)).2 33)) σ'))
      refine hK' true (by first | decide | simp [badC]) _ (fun p hp => ?_) ?_ ?_ ?_
      ·rcases List.mem_append.1 hp with hp | hp
       ·rcases hMM.new p hp with hp | hp
        ·exact .inl hp
        ·exact .inr (Int.le_of_lt hp)
       ·rw [List.mem_singleton] at hp
        subst hp
        exact .inr (Int.le_refl _)
      ·simp only [xS, upd, m4, m4', k4, n54, n54', m5, m5', k5, n75, n75', n74, n74', m7, m7', k7, kbc, kbc', k4', k7', if_false, if_true, ↓reduceIte]; rfl
      ·simp only [xS, upd, m4, m4', k4, n54, n54', m5, m5', k5, n75, n75', n74, n74', m7, m7', k7, kbc, kbc', k4', k7', if_false, if_true, ↓reduceIte]; rfl
      ·skip
       repeat (first | exact Frm.refl | exact hF | refine Frm.new ?_ hb4 _ | refine Frm.new ?_ hb5 _ | refine Frm.new ?_ hb7 _ | refine Frm.new ?_ hr0 _ | refine Frm.own ?_ (.inl rfl) _ | refine Frm.own ?_ (.inr rfl) _)
     | false =>
      simp only [go_sem, xP, xR, xS, hbc', m4, m4', k4, cntA, n54, n54', m5, m5', k5, n75, n75', n74, n74', m7, m7', k7, hk]
      refine mupB_way (a := (i, _)) us231 way229 (l := m) (by simp only [upd, m4, m4', k4, n54, n54', m5, m5', k5, n75, n75', n74, n74', m7, m7', k7, kbc, kbc', k4', k7', if_false, if_true, ↓reduceIte]; exact hbm) hg ?_
      simp only [go_sem, xP, xR, xS, m4, m4', k4, n54, n54', m5, m5', k5, n75, n75', n74, n74', m7, m7', k7, kbc, kbc', k4', k7', hbc', cntA]
      have hK' := fun bad2 (h2 : bad2 = (false || badC (((2 : Int), (1 : Int)).1, min ((2 : Int), (1 : Int)).2 33))) => let ⟨e, h1, h3, h4, h5⟩ := fin146 hd hn hMM.memo hO hMM.up (fun x hx => hMM.kids x (by rw [List.take_length]; exact hx)) (by have := hMM.why; rw [List.take_length] at this; exact this) h2; (fun σ' h6 h7 h8 h9 => (e ▸ hK _ bad2 σ' h1 h3 h4 h5 h6 h7 h8 h9 : K (cntA (((2 : Int), (1 : Int)).1, min ((2 : Int), (1 : Int)).2 33)) σ'))
      refine hK' false (by first | decide | simp [badC]) _ (fun p hp => ?_) ?_ ?_ ?_
      ·rcases List.mem_append.1 hp with hp | hp
       ·rcases hMM.new p hp with hp | hp
        ·exact .inl hp
        ·exact .inr (Int.le_of_lt hp)
       ·rw [List.mem_singleton] at hp
        subst hp
        exact .inr (Int.le_refl _)
      ·simp only [xS, upd, m4, m4', k4, n54, n54', m5, m5', k5, n75, n75', n74, n74', m7, m7', k7, kbc, kbc', k4', k7', if_false, if_true, ↓reduceIte]; rfl
      ·simp only [xS, upd, m4, m4', k4, n54, n54', m5, m5', k5, n75, n75', n74, n74', m7, m7', k7, kbc, kbc', k4', k7', if_false, if_true, ↓reduceIte]; rfl
      ·skip
       repeat (first | exact Frm.refl | exact hF | refine Frm.new ?_ hb4 _ | refine Frm.new ?_ hb5 _ | refine Frm.new ?_ hb7 _ | refine Frm.new ?_ hr0 _ | refine Frm.own ?_ (.inl rfl) _ | refine Frm.own ?_ (.inr rfl) _)
    | false =>
     have hO : outC (kindW n false) false (n.kids.map fun x => cntW f.nodes (x, false != decide (n.kind = 2))) = (1, 2) := by rw [hk]; rfl
     simp only [go_sem, xP, xR, xS, hbc', m4, m4', k4, cntA, n54, n54', m5, m5', k5, n75, n75', n74, n74', m7, m7', k7, hk, e10]
     cases bad with
     | true =>
      simp only [go_sem, xP, xR, xS, hbc', m4, m4', k4, cntA, n54, n54', m5, m5', k5, n75, n75', n74, n74', m7, m7', k7, hk]
      refine mupB_way (a := (i, _)) us231 way229 (l := m) (by simp only [upd, m4, m4', k4, n54, n54', m5, m5', k5, n75, n75', n74, n74', m7, m7', k7, kbc, kbc', k4', k7', if_false, if_true, ↓reduceIte]; exact hbm) hg ?_
      simp only [go_sem, xP, xR, xS, m4, m4', k4, n54, n54', m5, m5', k5, n75, n75', n74, n74', m7, m7', k7, kbc, kbc', k4', k7', hbc', cntA]
      have hK' := fun bad2 (h2 : bad2 = (true || badC (((1 : Int), (2 : Int)).1, min ((1 : Int), (2 : Int)).2 33))) => let ⟨e, h1, h3, h4, h5⟩ := fin146 hd hn hMM.memo hO hMM.up (fun x hx => hMM.kids x (by rw [List.take_length]; exact hx)) (by have := hMM.why; rw [List.take_length] at this; exact this) h2; (fun σ' h6 h7 h8 h9 => (e ▸ hK _ bad2 σ' h1 h3 h4 h5 h6 h7 h8 h9 : K (cntA (((1 : Int), (2 : Int)).1, min ((1 : Int), (2 : Int)).2 33)) σ'))
      refine hK' true (by first | decide | simp [badC]) _ (fun p hp => ?_) ?_ ?_ ?_
      ·rcases List.mem_append.1 hp with hp | hp
       ·rcases hMM.new p hp with hp | hp
        ·exact .inl hp
        ·exact .inr (Int.le_of_lt hp)
       ·rw [List.mem_singleton] at hp
        subst hp
        exact .inr (Int.le_refl _)
      ·simp only [xS, upd, m4, m4', k4, n54, n54', m5, m5', k5, n75, n75', n74, n74', m7, m7', k7, kbc, kbc', k4', k7', if_false, if_true, ↓reduceIte]; rfl
      ·simp only [xS, upd, m4, m4', k4, n54, n54', m5, m5', k5, n75, n75', n74, n74', m7, m7', k7, kbc, kbc', k4', k7', if_false, if_true, ↓reduceIte]; rfl
      ·skip
       repeat (first | exact Frm.refl | exact hF | refine Frm.new ?_ hb4 _ | refine Frm.new ?_ hb5 _ | refine Frm.new ?_ hb7 _ | refine Frm.new ?_ hr0 _ | refine Frm.own ?_ (.inl rfl) _ | refine Frm.own ?_ (.inr rfl) _)
     | false =>
      simp only [go_sem, xP, xR, xS, hbc', m4, m4', k4, cntA, n54, n54', m5, m5', k5, n75, n75', n74, n74', m7, m7', k7, hk]
      refine mupB_way (a := (i, _)) us231 way229 (l := m) (by simp only [upd, m4, m4', k4, n54, n54', m5, m5', k5, n75, n75', n74, n74', m7, m7', k7, kbc, kbc', k4', k7', if_false, if_true, ↓reduceIte]; exact hbm) hg ?_
      simp only [go_sem, xP, xR, xS, m4, m4', k4, n54, n54', m5, m5', k5, n75, n75', n74, n74', m7, m7', k7, kbc, kbc', k4', k7', hbc', cntA]
      have hK' := fun bad2 (h2 : bad2 = (false || badC (((1 : Int), (2 : Int)).1, min ((1 : Int), (2 : Int)).2 33))) => let ⟨e, h1, h3, h4, h5⟩ := fin146 hd hn hMM.memo hO hMM.up (fun x hx => hMM.kids x (by rw [List.take_length]; exact hx)) (by have := hMM.why; rw [List.take_length] at this; exact this) h2; (fun σ' h6 h7 h8 h9 => (e ▸ hK _ bad2 σ' h1 h3 h4 h5 h6 h7 h8 h9 : K (cntA (((1 : Int), (2 : Int)).1, min ((1 : Int), (2 : Int)).2 33)) σ'))
      refine hK' false (by first | decide | simp [badC]) _ (fun p hp => ?_) ?_ ?_ ?_
      ·rcases List.mem_append.1 hp with hp | hp
       ·rcases hMM.new p hp with hp | hp
        ·exact .inl hp
        ·exact .inr (Int.le_of_lt hp)
       ·rw [List.mem_singleton] at hp
        subst hp
        exact .inr (Int.le_refl _)
      ·simp only [xS, upd, m4, m4', k4, n54, n54', m5, m5', k5, n75, n75', n74, n74', m7, m7', k7, kbc, kbc', k4', k7', if_false, if_true, ↓reduceIte]; rfl
      ·simp only [xS, upd, m4, m4', k4, n54, n54', m5, m5', k5, n75, n75', n74, n74', m7, m7', k7, kbc, kbc', k4', k7', if_false, if_true, ↓reduceIte]; rfl
      ·skip
       repeat (first | exact Frm.refl | exact hF | refine Frm.new ?_ hb4 _ | refine Frm.new ?_ hb5 _ | refine Frm.new ?_ hb7 _ | refine Frm.new ?_ hr0 _ | refine Frm.own ?_ (.inl rfl) _ | refine Frm.own ?_ (.inr rfl) _)
   ·have hk2 : n.kind = 2 := by unfold kindW at hk; split at hk <;> omega
    simp only [go_sem, xP, xR, xS, hbc', m4, m4', k4, cntA, n54, n54', m5, m5', k5, n75, n75', n74, n74', m7, m7', k7, hk, e20, e21]
    refine callB_use (f223 f i b) rfl ?_
    simp only [go_sem, xP, xR, xS, hbc', m4, m4', k4, cntA, n54, n54', m5, m5', k5, n75, n75', n74, n74', m7, m7', k7, hk]
    refine SemC.rangeE (xs := waysX n b) (D := ownD n) (E := noD) (pre := fun _ => True) (f := 252) (first := []) (captured := [.pp (fmC f) 0, .pp [int i, .v (.bool b)] 0]) mixed (by simp only [go_sem, xP, xR, xS]) (f252 f i b n hn hkf) (by decide) (by kernel_rfl) (by kernel_rfl) own_ctl noD_ctl (fun _ _ _ _ _ _ => trivial)
     (fun k σ' => ∃ m1 bad1, Mid f.nodes i n b m bad k m1 bad1 ∧ σ' bc = some (cntRow f bm bad1) ∧ σ' bm = some (.map (mapW m1)) ∧ σ' b4 = some (.row [int 0, int 0] 2 1) ∧ σ' b7 = some (.row [int (((subC f.nodes n b).take k).getLastD (1, 0)).1, int (((subC f.nodes n b).take k).getLastD (1, 0)).2] 2 1) ∧  Frm bc bm σ σ')
     (fun e σ' => False)
     (fun k x ρ1 σ' => ∃ (j b8 : Nat) (m1 : List (WayT × AV)) (bad1 : Bool), (n.kids[k]? = some (j : Int) ∧ ρ1 2 = .pp [.v (.pointer (some ⟨bc, 0, none⟩))] 0 ∧ ρ1 7 = .v (.pointer (some ⟨b7, 0, none⟩)) ∧ ρ1 8 = .v (.pointer (some ⟨b8, 0, none⟩)) ∧  Mid f.nodes i n b m bad k m1 bad1) ∧ σ' b8 = some (.row [int j, .v (.bool (b != decide (n.kind = 2)))] 2 1) ∧ σ' bc = some (cntRow f bm bad1) ∧ σ' bm = some (.map (mapW m1)) ∧ σ' b4 = some (.row [int 0, int 0] 2 1) ∧ σ' b7 = some (.row [int (((subC f.nodes n b).take k).getLastD (1, 0)).1, int (((subC f.nodes n b).take k).getLastD (1, 0)).2] 2 1) ∧  Frm bc bm σ σ')
     (by intros; repeat' (first | exact Closed.row (fun h => h) | exact Closed.map (fun h => h) | exact Frm.closed (fun x hx => by first | exact hx | exact (un hx).2 | exact (un (un hx).2).2 | exact (un (un (un hx).2).2).2 | exact (un (un (un (un hx).2).2).2).2) | exact Closed.const _ | refine Closed.ex fun _ => ?_ | refine Closed.and ?_ ?_))
     (by intros; repeat' (first | exact Closed.row (fun h => h) | exact Closed.map (fun h => h) | exact Frm.closed (fun x hx => by first | exact hx | exact (un hx).2 | exact (un (un hx).2).2 | exact (un (un (un hx).2).2).2 | exact (un (un (un (un hx).2).2).2).2) | exact Closed.const _ | refine Closed.ex fun _ => ?_ | refine Closed.and ?_ ?_))
     (by intros; repeat' (first | exact Closed.row (fun h => h) | exact Closed.map (fun h => h) | exact Frm.closed (fun x hx => by first | exact hx | exact (un hx).2 | exact (un (un hx).2).2 | exact (un (un (un hx).2).2).2 | exact (un (un (un (un hx).2).2).2).2) | exact Closed.const _ | refine Closed.ex fun _ => ?_ | refine Closed.and ?_ ?_))
     ?_ ?_ ?_ ?_ ?_
    ·exact ⟨m, bad, Mid.zero hm, by simp only [go_sem, xP, xR, xS, m4, m5, m7]; exact hbc, by simp only [go_sem, xP, xR, xS, k4, k5, k7]; exact hbm, by simp only [go_sem, xP, xR, xS, n54', n74'], by simp [upd, int], ((Frm.refl.new hb4 _).new hb5 _).new hb7 _⟩
    ·rintro k x E σ' lq hE hx ⟨m1, bad1, hM, qc, qm, q4, q7,  hF⟩
     obtain ⟨c, hc', rfl⟩ := waysX_get hx
     obtain ⟨j, rfl⟩ := Int.eq_ofNat_of_zero_le (hd i n hn c (mem_of_get hc')).1
     have e2 : E 2 = .pp [.v (.pointer (some ⟨bc, 0, none⟩))] 0 := by rw [hE 2 (by decide)]; simp only [go_sem, xP, xR, xS]
     have e7 : E 7 = .v (.pointer (some ⟨b7, 0, none⟩)) := by rw [hE 7 (by decide)]; simp only [go_sem, xP, xR, xS]
     skip
     simp only [go_sem, xP, xR, xS, e2, e7]
     intro b8 hb8
     have x4 : ¬ b4 = b8 := nn hb8 q4
     have x7 : ¬ b7 = b8 := nn hb8 q7
     have xc : ¬ bc = b8 := nn hb8 qc
     have xm : ¬ bm = b8 := nn hb8 qm
     skip
     simp only [go_sem, xP, xR, xS, e2, e7, hc']
     refine ⟨(Keep.refl _ _).upd (keep_none hb8), j, b8, m1, bad1, ?_⟩
     simp only [go_sem, xP, xR, xS, e2, e7, hc', x4, x7, xc, xm, q4, q7, qc, qm, hc']
     exact ⟨hM, hF.fresh hb8 _⟩
    ·rintro k x ρ1 σ' lq hx ⟨j, b8, m1, bad1, ⟨hc', h2, h7, h8, hM⟩, q8, qc, qm, q4, q7, hF⟩
     simp only [go_sem, xP, xR, xS, h2, h7, h8, q8]
     obtain ⟨nc, hnc⟩ : ∃ nc, f.nodes[j]? = some nc := ⟨f.nodes[j]'(by have := (hd i n hn _ (mem_of_get hc')).2; have := lt_of_getElem? hn; omega), List.getElem?_eq_getElem _⟩
     have hji : (j : Int) < (i : Int) := (hd i n hn _ (mem_of_get hc')).2
     refine callB_a (ih j (b != decide (n.kind = 2)) nc m1 bad1 _ _ (by omega) hnc qc qm hM.memo ?_) rfl
     intro m2 bad2 σ2 hm2 u1 u2 u3 u4 qc2 qm2 hF2
     have q42 : σ2 b4 = some (.row [int 0, int 0] 2 1) := hF2 b4 _ m4' k4' q4
     have q72 : σ2 b7 = some (.row [int (((subC f.nodes n b).take k).getLastD (1, 0)).1, int (((subC f.nodes n b).take k).getLastD (1, 0)).2] 2 1) := hF2 b7 _ m7' k7' q7
     have hK2 := Frm.keep (n := n) qc own_cnt qm hF2
     have hM2 := hM.succ hc' hji hm2 u1 u2 u3 u4
     have hFF := hF.trans hF2
     have hcb := cntW_bd f.nodes ((j : Int), b != decide (n.kind = 2))
     have hsg := subC_get (l := f.nodes) (b := b) hc'
     have htk := take_succ hsg
     simp only [go_sem, xP, xR, xS, h2, h7, h8, q72, cntA]
     refine ⟨hK2.upd (keep_row q7 (own_row (by decide))), m2, bad2, hM2, ?_⟩
     simp only [go_sem, xP, xR, xS, m7, k7, n74', qc2, qm2, q42]
     rw [htk]
     refine ⟨?_, hFF.new hb7 _⟩
     simp [int]
    ·rintro σ' r hr' ⟨m1, bad1, hMM, qc, qm, q4, q7,  hF⟩ hdr
     rw [waysX_len] at hMM
     rw [waysX_len, ← subC_len (l := f.nodes) (b := b), List.take_length] at q7
     have r4 : ¬ b4 = r := dn hdr q4
     have r7 : ¬ b7 = r := dn hdr q7
     have rc : ¬ bc = r := dn hdr qc
     have rm : ¬ bm = r := fun e => by rw [e, hdr] at qm; cases qm
     have r4' : ¬ r = b4 := fun e => r4 e.symm
     have r7' : ¬ r = b7 := fun e => r7 e.symm
     have rc' : ¬ r = bc := fun e => rc e.symm
     have rm' : ¬ r = bm := fun e => rm e.symm
     have hgm := getW_none hg hMM.new
     have qc' : σ' bc = some (.row [int f.vars, slN f.nodes, .v (.map (some bm)), .v (.bool bad1)] 4 1) := qc
     have hO : outC (kindW n b) b (n.kids.map fun x => cntW f.nodes (x, b != decide (n.kind = 2))) = (subC f.nodes n b).getLastD (1, 0) := by rw [hk]; rfl
     generalize (subC f.nodes n b).getLastD (1, 0) = o at q7 hO
     have hr0 : σ r = none := (un (un (un hr').2).2).2
     cases bad1 with
     | true =>
      simp only [go_sem, xP, xR, xS, qc', q4, q7, hdr, minI, maxI, m4, m4', k4, n54, n54', m5, m5', k5, n75, n75', n74, n74', m7, m7', k7, kbc, kbc', k4', k7', r4, r7, rc, rm, r4', r7', rc', rm']
      refine mupB_way (a := (i, _)) us231 way229 (l := m1) (by simp only [upd, m4, m4', k4, n54, n54', m5, m5', k5, n75, n75', n74, n74', m7, m7', k7, kbc, kbc', k4', k7', r4, r7, rc, rm, r4', r7', rc', rm', if_false, if_true, ↓reduceIte]; exact qm) hgm ?_
      simp only [go_sem, xP, xR, xS, m4, m4', k4, n54, n54', m5, m5', k5, n75, n75', n74, n74', m7, m7', k7, kbc, kbc', k4', k7', r4, r7, rc, rm, r4', r7', rc', rm', qc', q4, q7, hdr, cntA, minI]
      have hK' := fun bad2 (h2 : bad2 = (true || badC (o.1, min o.2 33))) => let ⟨e, h1, h3, h4, h5⟩ := fin146 hd hn hMM.memo hO hMM.up (fun x hx => hMM.kids x (by rw [List.take_length]; exact hx)) (by have := hMM.why; rw [List.take_length] at this; exact this) h2; (fun σ' h6 h7 h8 h9 => (e ▸ hK _ bad2 σ' h1 h3 h4 h5 h6 h7 h8 h9 : K (cntA (o.1, min o.2 33)) σ'))
      refine hK' true (by first | decide | simp [badC]) _ (fun p hp => ?_) ?_ ?_ ?_
      ·rcases List.mem_append.1 hp with hp | hp
       ·rcases hMM.new p hp with hp | hp
        ·exact .inl hp
        ·exact .inr (Int.le_of_lt hp)
       ·rw [List.mem_singleton] at hp
        subst hp
        exact .inr (Int.le_refl _)
      ·simp only [xS, upd, m4, m4', k4, n54, n54', m5, m5', k5, n75, n75', n74, n74', m7, m7', k7, kbc, kbc', k4', k7', r4, r7, rc, rm, r4', r7', rc', rm', if_false, if_true, ↓reduceIte]; rfl
      ·simp only [xS, upd, m4, m4', k4, n54, n54', m5, m5', k5, n75, n75', n74, n74', m7, m7', k7, kbc, kbc', k4', k7', r4, r7, rc, rm, r4', r7', rc', rm', if_false, if_true, ↓reduceIte]; rfl
      ·rw [ers_upd]
       repeat (first | exact Frm.refl | exact hF | refine Frm.new ?_ hb4 _ | refine Frm.new ?_ hb5 _ | refine Frm.new ?_ hb7 _ | refine Frm.new ?_ hr0 _ | refine Frm.own ?_ (.inl rfl) _ | refine Frm.own ?_ (.inr rfl) _)
     | false =>
      by_cases hA : 64 < o.1
      ·simp only [go_sem, xP, xR, xS, qc', q4, q7, hdr, minI, maxI, hA, m4, m4', k4, n54, n54', m5, m5', k5, n75, n75', n74, n74', m7, m7', k7, kbc, kbc', k4', k7', r4, r7, rc, rm, r4', r7', rc', rm']
       refine mupB_way (a := (i, _)) us231 way229 (l := m1) (by simp only [upd, m4, m4', k4, n54, n54', m5, m5', k5, n75, n75', n74, n74', m7, m7', k7, kbc, kbc', k4', k7', r4, r7, rc, rm, r4', r7', rc', rm', if_false, if_true, ↓reduceIte]; exact qm) hgm ?_
       simp only [go_sem, xP, xR, xS, m4, m4', k4, n54, n54', m5, m5', k5, n75, n75', n74, n74', m7, m7', k7, kbc, kbc', k4', k7', r4, r7, rc, rm, r4', r7', rc', rm', qc', q4, q7, hdr, cntA, minI]
       have hK' := fun bad2 (h2 : bad2 = (false || badC (o.1, min o.2 33))) => let ⟨e, h1, h3, h4, h5⟩ := fin146 hd hn hMM.memo hO hMM.up (fun x hx => hMM.kids x (by rw [List.take_length]; exact hx)) (by have := hMM.why; rw [List.take_length] at this; exact this) h2; (fun σ' h6 h7 h8 h9 => (e ▸ hK _ bad2 σ' h1 h3 h4 h5 h6 h7 h8 h9 : K (cntA (o.1, min o.2 33)) σ'))
       refine hK' true (by first | decide | simp [badC, hA]) _ (fun p hp => ?_) ?_ ?_ ?_
       ·rcases List.mem_append.1 hp with hp | hp
        ·rcases hMM.new p hp with hp | hp
         ·exact .inl hp
         ·exact .inr (Int.le_of_lt hp)
        ·rw [List.mem_singleton] at hp
         subst hp
         exact .inr (Int.le_refl _)
       ·simp only [xS, upd, m4, m4', k4, n54, n54', m5, m5', k5, n75, n75', n74, n74', m7, m7', k7, kbc, kbc', k4', k7', r4, r7, rc, rm, r4', r7', rc', rm', if_false, if_true, ↓reduceIte]; rfl
       ·simp only [xS, upd, m4, m4', k4, n54, n54', m5, m5', k5, n75, n75', n74, n74', m7, m7', k7, kbc, kbc', k4', k7', r4, r7, rc, rm, r4', r7', rc', rm', if_false, if_true, ↓reduceIte]; rfl
       ·rw [ers_upd]
        repeat (first | exact Frm.refl | exact hF | refine Frm.new ?_ hb4 _ | refine Frm.new ?_ hb5 _ | refine Frm.new ?_ hb7 _ | refine Frm.new ?_ hr0 _ | refine Frm.own ?_ (.inl rfl) _ | refine Frm.own ?_ (.inr rfl) _)
      ·by_cases hB : 32 < o.2
       ·have hB' : 32 < min o.2 33 := by omega
        simp only [go_sem, xP, xR, xS, qc', q4, q7, hdr, minI, maxI, hA, hB, m4, m4', k4, n54, n54', m5, m5', k5, n75, n75', n74, n74', m7, m7', k7, kbc, kbc', k4', k7', r4, r7, rc, rm, r4', r7', rc', rm']
        refine mupB_way (a := (i, _)) us231 way229 (l := m1) (by simp only [upd, m4, m4', k4, n54, n54', m5, m5', k5, n75, n75', n74, n74', m7, m7', k7, kbc, kbc', k4', k7', r4, r7, rc, rm, r4', r7', rc', rm', if_false, if_true, ↓reduceIte]; exact qm) hgm ?_
        simp only [go_sem, xP, xR, xS, m4, m4', k4, n54, n54', m5, m5', k5, n75, n75', n74, n74', m7, m7', k7, kbc, kbc', k4', k7', r4, r7, rc, rm, r4', r7', rc', rm', qc', q4, q7, hdr, cntA, minI]
        have hK' := fun bad2 (h2 : bad2 = (false || badC (o.1, min o.2 33))) => let ⟨e, h1, h3, h4, h5⟩ := fin146 hd hn hMM.memo hO hMM.up (fun x hx => hMM.kids x (by rw [List.take_length]; exact hx)) (by have := hMM.why; rw [List.take_length] at this; exact this) h2; (fun σ' h6 h7 h8 h9 => (e ▸ hK _ bad2 σ' h1 h3 h4 h5 h6 h7 h8 h9 : K (cntA (o.1, min o.2 33)) σ'))
        refine hK' true (by first | decide | simp [badC, hB']) _ (fun p hp => ?_) ?_ ?_ ?_
        ·rcases List.mem_append.1 hp with hp | hp
         ·rcases hMM.new p hp with hp | hp
          ·exact .inl hp
          ·exact .inr (Int.le_of_lt hp)
         ·rw [List.mem_singleton] at hp
          subst hp
          exact .inr (Int.le_refl _)
        ·simp only [xS, upd, m4, m4', k4, n54, n54', m5, m5', k5, n75, n75', n74, n74', m7, m7', k7, kbc, kbc', k4', k7', r4, r7, rc, rm, r4', r7', rc', rm', if_false, if_true, ↓reduceIte]; rfl
        ·simp only [xS, upd, m4, m4', k4, n54, n54', m5, m5', k5, n75, n75', n74, n74', m7, m7', k7, kbc, kbc', k4', k7', r4, r7, rc, rm, r4', r7', rc', rm', if_false, if_true, ↓reduceIte]; rfl
        ·rw [ers_upd]
         repeat (first | exact Frm.refl | exact hF | refine Frm.new ?_ hb4 _ | refine Frm.new ?_ hb5 _ | refine Frm.new ?_ hb7 _ | refine Frm.new ?_ hr0 _ | refine Frm.own ?_ (.inl rfl) _ | refine Frm.own ?_ (.inr rfl) _)
       ·have hB' : ¬ 32 < min o.2 33 := by omega
        simp only [go_sem, xP, xR, xS, qc', q4, q7, hdr, minI, maxI, hA, hB, m4, m4', k4, n54, n54', m5, m5', k5, n75, n75', n74, n74', m7, m7', k7, kbc, kbc', k4', k7', r4, r7, rc, rm, r4', r7', rc', rm']
        refine mupB_way (a := (i, _)) us231 way229 (l := m1) (by simp only [upd, m4, m4', k4, n54, n54', m5, m5', k5, n75, n75', n74, n74', m7, m7', k7, kbc, kbc', k4', k7', r4, r7, rc, rm, r4', r7', rc', rm', if_false, if_true, ↓reduceIte]; exact qm) hgm ?_
        simp only [go_sem, xP, xR, xS, m4, m4', k4, n54, n54', m5, m5', k5, n75, n75', n74, n74', m7, m7', k7, kbc, kbc', k4', k7', r4, r7, rc, rm, r4', r7', rc', rm', qc', q4, q7, hdr, cntA, minI]
        have hK' := fun bad2 (h2 : bad2 = (false || badC (o.1, min o.2 33))) => let ⟨e, h1, h3, h4, h5⟩ := fin146 hd hn hMM.memo hO hMM.up (fun x hx => hMM.kids x (by rw [List.take_length]; exact hx)) (by have := hMM.why; rw [List.take_length] at this; exact this) h2; (fun σ' h6 h7 h8 h9 => (e ▸ hK _ bad2 σ' h1 h3 h4 h5 h6 h7 h8 h9 : K (cntA (o.1, min o.2 33)) σ'))
        refine hK' false (by first | decide | simp [badC, hA, hB']) _ (fun p hp => ?_) ?_ ?_ ?_
        ·rcases List.mem_append.1 hp with hp | hp
         ·rcases hMM.new p hp with hp | hp
          ·exact .inl hp
          ·exact .inr (Int.le_of_lt hp)
         ·rw [List.mem_singleton] at hp
          subst hp
          exact .inr (Int.le_refl _)
        ·simp only [xS, upd, m4, m4', k4, n54, n54', m5, m5', k5, n75, n75', n74, n74', m7, m7', k7, kbc, kbc', k4', k7', r4, r7, rc, rm, r4', r7', rc', rm', if_false, if_true, ↓reduceIte]; rfl
        ·simp only [xS, upd, m4, m4', k4, n54, n54', m5, m5', k5, n75, n75', n74, n74', m7, m7', k7, kbc, kbc', k4', k7', r4, r7, rc, rm, r4', r7', rc', rm', if_false, if_true, ↓reduceIte]; rfl
        ·rw [ers_upd]
         repeat (first | exact Frm.refl | exact hF | refine Frm.new ?_ hb4 _ | refine Frm.new ?_ hb5 _ | refine Frm.new ?_ hb7 _ | refine Frm.new ?_ hr0 _ | refine Frm.own ?_ (.inl rfl) _ | refine Frm.own ?_ (.inr rfl) _)
    ·rintro e σ' r hr' hF hd
     exact hF.elim
   ·have hk2 : 2 ≤ n.kind := by unfold kindW at hk; split at hk <;> omega
    have hkl := (hok1.form hk2).2.1
    simp only [go_sem, xP, xR, xS, hbc', m4, m4', k4, cntA, n54, n54', m5, m5', k5, n75, n75', n74, n74', m7, m7', k7, hk, e30, e31, e32]
    intro b9 hb9
    obtain ⟨n97, hb9⟩ := un hb9
    obtain ⟨n95, hb9⟩ := un hb9
    obtain ⟨n94, hb9⟩ := un hb9
    have n97' : ¬ b7 = b9 := fun e => n97 e.symm
    have n95' : ¬ b5 = b9 := fun e => n95 e.symm
    have n94' : ¬ b4 = b9 := fun e => n94 e.symm
    have m9 : ¬ bc = b9 := nn hb9 hbc
    have m9' : ¬ b9 = bc := fun e => m9 e.symm
    have k9 : ¬ bm = b9 := nn hb9 hbm
    have k9' : ¬ b9 = bm := fun e => k9 e.symm
    simp only [go_sem, xP, xR, xS, hbc', m4, m4', k4, cntA, n54, n54', m5, m5', k5, n75, n75', n74, n74', m7, m7', k7, hk, n97, n97', n95, n95', n94, n94', m9, m9', k9, k9']
    refine callB_use (f223 f i b) rfl ?_
    simp only [go_sem, xP, xR, xS, hbc', m4, m4', k4, cntA, n54, n54', m5, m5', k5, n75, n75', n74, n74', m7, m7', k7, hk, n97, n97', n95, n95', n94, n94', m9, m9', k9, k9']
    refine SemC.rangeE (xs := waysX n b) (D := ownD n) (E := noD) (pre := fun _ => True) (f := 252) (first := []) (captured := [.pp (fmC f) 0, .pp [int i, .v (.bool b)] 0]) mixed (by simp only [go_sem, xP, xR, xS]) (f252 f i b n hn hkf) (by decide) (by kernel_rfl) (by kernel_rfl) own_ctl noD_ctl (fun _ _ _ _ _ _ => trivial)
     (fun k σ' => ∃ m1 bad1, Mid f.nodes i n b m bad k m1 bad1 ∧ σ' bc = some (cntRow f bm bad1) ∧ σ' bm = some (.map (mapW m1)) ∧ σ' b4 = some (.row [int 0, int 0] 2 1) ∧ σ' b7 = some (.row [int (((subC f.nodes n b).take k).foldl stepA (1, 0)).1, int (((subC f.nodes n b).take k).foldl stepA (1, 0)).2] 2 1) ∧ σ' b9 = some (.row [.v (.bool (anyZ ((subC f.nodes n b).take k)))] 1 1) ∧ Frm bc bm σ σ')
     (fun e σ' => False)
     (fun k x ρ1 σ' => ∃ (j b8 : Nat) (m1 : List (WayT × AV)) (bad1 : Bool), (n.kids[k]? = some (j : Int) ∧ ρ1 2 = .pp [.v (.pointer (some ⟨bc, 0, none⟩))] 0 ∧ ρ1 7 = .v (.pointer (some ⟨b7, 0, none⟩)) ∧ ρ1 10 = .v (.pointer (some ⟨b8, 0, none⟩)) ∧ ρ1 9 = .v (.pointer (some ⟨b9, 0, none⟩)) ∧ Mid f.nodes i n b m bad k m1 bad1) ∧ σ' b8 = some (.row [int j, .v (.bool (b != decide (n.kind = 2)))] 2 1) ∧ σ' bc = some (cntRow f bm bad1) ∧ σ' bm = some (.map (mapW m1)) ∧ σ' b4 = some (.row [int 0, int 0] 2 1) ∧ σ' b7 = some (.row [int (((subC f.nodes n b).take k).foldl stepA (1, 0)).1, int (((subC f.nodes n b).take k).foldl stepA (1, 0)).2] 2 1) ∧ σ' b9 = some (.row [.v (.bool (anyZ ((subC f.nodes n b).take k)))] 1 1) ∧ Frm bc bm σ σ')
     (by intros; repeat' (first | exact Closed.row (fun h => h) | exact Closed.map (fun h => h) | exact Frm.closed (fun x hx => by first | exact hx | exact (un hx).2 | exact (un (un hx).2).2 | exact (un (un (un hx).2).2).2 | exact (un (un (un (un hx).2).2).2).2) | exact Closed.const _ | refine Closed.ex fun _ => ?_ | refine Closed.and ?_ ?_))
     (by intros; repeat' (first | exact Closed.row (fun h => h) | exact Closed.map (fun h => h) | exact Frm.closed (fun x hx => by first | exact hx | exact (un hx).2 | exact (un (un hx).2).2 | exact (un (un (un hx).2).2).2 | exact (un (un (un (un hx).2).2).2).2) | exact Closed.const _ | refine Closed.ex fun _ => ?_ | refine Closed.and ?_ ?_))
     (by intros; repeat' (first | exact Closed.row (fun h => h) | exact Closed.map (fun h => h) | exact Frm.closed (fun x hx => by first | exact hx | exact (un hx).2 | exact (un (un hx).2).2 | exact (un (un (un hx).2).2).2 | exact (un (un (un (un hx).2).2).2).2) | exact Closed.const _ | refine Closed.ex fun _ => ?_ | refine Closed.and ?_ ?_))
     ?_ ?_ ?_ ?_ ?_
    ·exact ⟨m, bad, Mid.zero hm, by simp only [go_sem, xP, xR, xS, m4, m5, m7, m9]; exact hbc, by simp only [go_sem, xP, xR, xS, k4, k5, k7, k9]; exact hbm, by simp only [go_sem, xP, xR, xS, n54', n74', n94'], by simp [upd, int, n97'], by simp [upd, anyZ], (((Frm.refl.new hb4 _).new hb5 _).new hb7 _).new hb9 _⟩
    ·rintro k x E σ' lq hE hx ⟨m1, bad1, hM, qc, qm, q4, q7, q9, hF⟩
     obtain ⟨c, hc', rfl⟩ := waysX_get hx
     obtain ⟨j, rfl⟩ := Int.eq_ofNat_of_zero_le (hd i n hn c (mem_of_get hc')).1
     have e2 : E 2 = .pp [.v (.pointer (some ⟨bc, 0, none⟩))] 0 := by rw [hE 2 (by decide)]; simp only [go_sem, xP, xR, xS]
     have e7 : E 7 = .v (.pointer (some ⟨b7, 0, none⟩)) := by rw [hE 7 (by decide)]; simp only [go_sem, xP, xR, xS]
     have e9 : E 9 = .v (.pointer (some ⟨b9, 0, none⟩)) := by rw [hE 9 (by decide)]; simp only [go_sem, xP, xR, xS]
     simp only [go_sem, xP, xR, xS, e2, e7]
     intro b8 hb8
     have x4 : ¬ b4 = b8 := nn hb8 q4
     have x7 : ¬ b7 = b8 := nn hb8 q7
     have xc : ¬ bc = b8 := nn hb8 qc
     have xm : ¬ bm = b8 := nn hb8 qm
     have x9 : ¬ b9 = b8 := nn hb8 q9
     simp only [go_sem, xP, xR, xS, e2, e7, hc']
     refine ⟨(Keep.refl _ _).upd (keep_none hb8), j, b8, m1, bad1, ?_⟩
     simp only [go_sem, xP, xR, xS, e2, e7, hc', x4, x7, xc, xm, q4, q7, qc, qm, e9, x9, q9]
     exact ⟨hM, hF.fresh hb8 _⟩
    ·rintro k x ρ1 σ' lq hx ⟨j, b8, m1, bad1, ⟨hc', h2, h7, h8, h9, hM⟩, q8, qc, qm, q4, q7, q9, hF⟩
     simp only [go_sem, xP, xR, xS, h2, h7, h8, h9, q8]
     obtain ⟨nc, hnc⟩ : ∃ nc, f.nodes[j]? = some nc := ⟨f.nodes[j]'(by have := (hd i n hn _ (mem_of_get hc')).2; have := lt_of_getElem? hn; omega), List.getElem?_eq_getElem _⟩
     have hji : (j : Int) < (i : Int) := (hd i n hn _ (mem_of_get hc')).2
     refine callB_a (ih j (b != decide (n.kind = 2)) nc m1 bad1 _ _ (by omega) hnc qc qm hM.memo ?_) rfl
     intro m2 bad2 σ2 hm2 u1 u2 u3 u4 qc2 qm2 hF2
     have q42 : σ2 b4 = some (.row [int 0, int 0] 2 1) := hF2 b4 _ m4' k4' q4
     have q72 : σ2 b7 = some (.row [int (((subC f.nodes n b).take k).foldl stepA (1, 0)).1, int (((subC f.nodes n b).take k).foldl stepA (1, 0)).2] 2 1) := hF2 b7 _ m7' k7' q7
     have hK2 := Frm.keep (n := n) qc own_cnt qm hF2
     have hM2 := hM.succ hc' hji hm2 u1 u2 u3 u4
     have hFF := hF.trans hF2
     have hcb := cntW_bd f.nodes ((j : Int), b != decide (n.kind = 2))
     have hsg := subC_get (l := f.nodes) (b := b) hc'
     have htk := take_succ hsg
     have q92 : σ2 b9 = some (.row [.v (.bool (anyZ ((subC f.nodes n b).take k)))] 1 1) := hF2 b9 _ m9' k9' q9
     obtain ⟨p1, p2, p3, p4⟩ := foldA_bd ((subC f.nodes n b).take k) (1, 0) (fun c hc => subC_bd c (List.mem_of_mem_take hc)) (by decide) (by decide) (by decide)
     have hkl2 : ((subC f.nodes n b).take k).length ≤ 200 := by rw [List.length_take, subC_len]; omega
     rw [htk, List.foldl_append, anyZ_snoc]
     generalize ((subC f.nodes n b).take k).foldl stepA (1, 0) = o at q72 p1 p2 p3 p4 q7 ⊢
     generalize anyZ ((subC f.nodes n b).take k) = z at q92 q9 ⊢
     obtain ⟨c1, c2, c3, c4⟩ := hcb
     generalize cntW f.nodes ((j : Int), b != decide (n.kind = 2)) = c at c1 c2 c3 c4 ⊢
     obtain ⟨p5, p6⟩ := mul65 p1 p2 c1 c2
     have hw1 : IntKind.i64.wrap (o.1 * c.1) = o.1 * c.1 := wrap_i64 _ (by omega) (by omega)
     have hw2 : IntKind.i64.wrap (o.2 + c.2) = o.2 + c.2 := wrap_i64 _ (by omega) (by omega)
     simp only [go_sem, xP, xR, xS, h2, h7, h8, h9, q72, q92, cntA]
     intro b11 hb11
     have y7 : ¬ b7 = b11 := nn hb11 q72
     have y9 : ¬ b9 = b11 := nn hb11 q92
     have y4 : ¬ b4 = b11 := nn hb11 q42
     have yc : ¬ bc = b11 := nn hb11 qc2
     have ym : ¬ bm = b11 := nn hb11 qm2
     have y7' : ¬ b11 = b7 := fun e => y7 e.symm
     have y9' : ¬ b11 = b9 := fun e => y9 e.symm
     have hKK := (hK2.trans ((Keep.refl _ _).upd (keep_none hb11) (y := some (.row [int c.1, int c.2] 2 1))))
     cases z with
     | true =>
      simp only [go_sem, xP, xR, xS, h2, h7, h8, h9, q72, q92, cntA, y7, y9, y7', y9', n97, n97', minI, hw1, hw2]
      refine ⟨(hKK.upd (keep_row q9 (own_row (by decide)))).upd (keep_row q7 (own_row (by decide))), m2, bad2, hM2, ?_⟩
      simp only [go_sem, xP, xR, xS, qc2, qm2, q42, y4, yc, ym, m7, k7, n74', m9, k9, n94', n97]
      exact ⟨by simp [stepA], by simp, (((hFF.fresh hb11 _).new hb9 _).new hb7 _)⟩
     | false =>
      simp only [go_sem, xP, xR, xS, h2, h7, h8, h9, q72, q92, cntA, y7, y9, y7', y9', n97, n97', minI, hw1, hw2, hG2]
      refine ⟨(hKK.upd (keep_row q9 (own_row (by decide)))).upd (keep_row q7 (own_row (by decide))), m2, bad2, hM2, ?_⟩
      simp only [go_sem, xP, xR, xS, qc2, qm2, q42, y4, yc, ym, m7, k7, n74', m9, k9, n94', n97]
      exact ⟨by simp [stepA], by simp, (((hFF.fresh hb11 _).new hb9 _).new hb7 _)⟩
    ·rintro σ' r hr' ⟨m1, bad1, hMM, qc, qm, q4, q7, q9, hF⟩ hdr
     rw [waysX_len] at hMM
     rw [waysX_len, ← subC_len (l := f.nodes) (b := b), List.take_length] at q7
     have r4 : ¬ b4 = r := dn hdr q4
     have r7 : ¬ b7 = r := dn hdr q7
     have rc : ¬ bc = r := dn hdr qc
     have rm : ¬ bm = r := fun e => by rw [e, hdr] at qm; cases qm
     have r4' : ¬ r = b4 := fun e => r4 e.symm
     have r7' : ¬ r = b7 := fun e => r7 e.symm
     have rc' : ¬ r = bc := fun e => rc e.symm
     have rm' : ¬ r = bm := fun e => rm e.symm
     have hgm := getW_none hg hMM.new
     have qc' : σ' bc = some (.row [int f.vars, slN f.nodes, .v (.map (some bm)), .v (.bool bad1)] 4 1) := qc
     rw [waysX_len, ← subC_len (l := f.nodes) (b := b), List.take_length] at q9
     have r9 : ¬ b9 = r := dn hdr q9
     have r9' : ¬ r = b9 := fun e => r9 e.symm
     have hr0 : σ r = none := (un (un (un (un hr').2).2).2).2
     have hO0 : outC (kindW n b) b (n.kids.map fun x => cntW f.nodes (x, b != decide (n.kind = 2))) = if anyZ (subC f.nodes n b) then (0, 0) else (subC f.nodes n b).foldl stepA (1, 0) := by rw [hk]; rfl
     cases hz : anyZ (subC f.nodes n b) with
     | true =>
      rw [hz] at hO0 q9
      have hO : outC (kindW n b) b (n.kids.map fun x => cntW f.nodes (x, b != decide (n.kind = 2))) = (0, 0) := hO0
      cases bad1 with
      | true =>
       simp only [go_sem, xP, xR, xS, qc', q4, q7, q9, hdr, minI, maxI, hG2, m4, m4', k4, n54, n54', m5, m5', k5, n75, n75', n74, n74', m7, m7', k7, kbc, kbc', k4', k7', r4, r7, rc, rm, r4', r7', rc', rm']
       refine mupB_way (a := (i, _)) us231 way229 (l := m1) (by simp only [upd, m4, m4', k4, n54, n54', m5, m5', k5, n75, n75', n74, n74', m7, m7', k7, kbc, kbc', k4', k7', r4, r7, rc, rm, r4', r7', rc', rm', if_false, if_true, ↓reduceIte]; exact qm) hgm ?_
       simp only [go_sem, xP, xR, xS, m4, m4', k4, n54, n54', m5, m5', k5, n75, n75', n74, n74', m7, m7', k7, kbc, kbc', k4', k7', r4, r7, rc, rm, r4', r7', rc', rm', qc', q4, q7, hdr, cntA, minI]
       have hK' := fun bad2 (h2 : bad2 = (true || badC (((0 : Int), (0 : Int)).1, min ((0 : Int), (0 : Int)).2 33))) => let ⟨e, h1, h3, h4, h5⟩ := fin146 hd hn hMM.memo hO hMM.up (fun x hx => hMM.kids x (by rw [List.take_length]; exact hx)) (by have := hMM.why; rw [List.take_length] at this; exact this) h2; (fun σ' h6 h7 h8 h9 => (e ▸ hK _ bad2 σ' h1 h3 h4 h5 h6 h7 h8 h9 : K (cntA (((0 : Int), (0 : Int)).1, min ((0 : Int), (0 : Int)).2 33)) σ'))
       refine hK' true (by first | decide | simp [badC]) _ (fun p hp => ?_) ?_ ?_ ?_
       ·rcases List.mem_append.1 hp with hp | hp
        ·rcases hMM.new p hp with hp | hp
         ·exact .inl hp
         ·exact .inr (Int.le_of_lt hp)
        ·rw [List.mem_singleton] at hp
         subst hp
         exact .inr (Int.le_refl _)
       ·simp only [xS, upd, m4, m4', k4, n54, n54', m5, m5', k5, n75, n75', n74, n74', m7, m7', k7, kbc, kbc', k4', k7', r4, r7, rc, rm, r4', r7', rc', rm', if_false, if_true, ↓reduceIte]; rfl
       ·simp only [xS, upd, m4, m4', k4, n54, n54', m5, m5', k5, n75, n75', n74, n74', m7, m7', k7, kbc, kbc', k4', k7', r4, r7, rc, rm, r4', r7', rc', rm', if_false, if_true, ↓reduceIte]; rfl
       ·rw [ers_upd]
        repeat (first | exact Frm.refl | exact hF | refine Frm.new ?_ hb4 _ | refine Frm.new ?_ hb5 _ | refine Frm.new ?_ hb7 _ | refine Frm.new ?_ hr0 _ | refine Frm.own ?_ (.inl rfl) _ | refine Frm.own ?_ (.inr rfl) _)
      | false =>
       simp only [go_sem, xP, xR, xS, qc', q4, q7, q9, hdr, minI, maxI, hG2, m4, m4', k4, n54, n54', m5, m5', k5, n75, n75', n74, n74', m7, m7', k7, kbc, kbc', k4', k7', r4, r7, rc, rm, r4', r7', rc', rm']
       refine mupB_way (a := (i, _)) us231 way229 (l := m1) (by simp only [upd, m4, m4', k4, n54, n54', m5, m5', k5, n75, n75', n74, n74', m7, m7', k7, kbc, kbc', k4', k7', r4, r7, rc, rm, r4', r7', rc', rm', if_false, if_true, ↓reduceIte]; exact qm) hgm ?_
       simp only [go_sem, xP, xR, xS, m4, m4', k4, n54, n54', m5, m5', k5, n75, n75', n74, n74', m7, m7', k7, kbc, kbc', k4', k7', r4, r7, rc, rm, r4', r7', rc', rm', qc', q4, q7, hdr, cntA, minI]
       have hK' := fun bad2 (h2 : bad2 = (false || badC (((0 : Int), (0 : Int)).1, min ((0 : Int), (0 : Int)).2 33))) => let ⟨e, h1, h3, h4, h5⟩ := fin146 hd hn hMM.memo hO hMM.up (fun x hx => hMM.kids x (by rw [List.take_length]; exact hx)) (by have := hMM.why; rw [List.take_length] at this; exact this) h2; (fun σ' h6 h7 h8 h9 => (e ▸ hK _ bad2 σ' h1 h3 h4 h5 h6 h7 h8 h9 : K (cntA (((0 : Int), (0 : Int)).1, min ((0 : Int), (0 : Int)).2 33)) σ'))
       refine hK' false (by first | decide | simp [badC]) _ (fun p hp => ?_) ?_ ?_ ?_
       ·rcases List.mem_append.1 hp with hp | hp
        ·rcases hMM.new p hp with hp | hp
         ·exact .inl hp
         ·exact .inr (Int.le_of_lt hp)
        ·rw [List.mem_singleton] at hp
         subst hp
         exact .inr (Int.le_refl _)
       ·simp only [xS, upd, m4, m4', k4, n54, n54', m5, m5', k5, n75, n75', n74, n74', m7, m7', k7, kbc, kbc', k4', k7', r4, r7, rc, rm, r4', r7', rc', rm', if_false, if_true, ↓reduceIte]; rfl
       ·simp only [xS, upd, m4, m4', k4, n54, n54', m5, m5', k5, n75, n75', n74, n74', m7, m7', k7, kbc, kbc', k4', k7', r4, r7, rc, rm, r4', r7', rc', rm', if_false, if_true, ↓reduceIte]; rfl
       ·rw [ers_upd]
        repeat (first | exact Frm.refl | exact hF | refine Frm.new ?_ hb4 _ | refine Frm.new ?_ hb5 _ | refine Frm.new ?_ hb7 _ | refine Frm.new ?_ hr0 _ | refine Frm.own ?_ (.inl rfl) _ | refine Frm.own ?_ (.inr rfl) _)
     | false =>
      rw [hz] at hO0 q9
      have hO : outC (kindW n b) b (n.kids.map fun x => cntW f.nodes (x, b != decide (n.kind = 2))) = (subC f.nodes n b).foldl stepA (1, 0) := hO0
      generalize (subC f.nodes n b).foldl stepA (1, 0) = o at q7 hO
      cases bad1 with
      | true =>
       simp only [go_sem, xP, xR, xS, qc', q4, q7, hdr, minI, maxI, q9, m4, m4', k4, n54, n54', m5, m5', k5, n75, n75', n74, n74', m7, m7', k7, kbc, kbc', k4', k7', r4, r7, rc, rm, r4', r7', rc', rm']
       refine mupB_way (a := (i, _)) us231 way229 (l := m1) (by simp only [upd, q9, m4, m4', k4, n54, n54', m5, m5', k5, n75, n75', n74, n74', m7, m7', k7, kbc, kbc', k4', k7', r4, r7, rc, rm, r4', r7', rc', rm', if_false, if_true, ↓reduceIte]; exact qm) hgm ?_
       simp only [go_sem, xP, xR, xS, q9, m4, m4', k4, n54, n54', m5, m5', k5, n75, n75', n74, n74', m7, m7', k7, kbc, kbc', k4', k7', r4, r7, rc, rm, r4', r7', rc', rm', qc', q4, q7, hdr, cntA, minI]
       have hK' := fun bad2 (h2 : bad2 = (true || badC (o.1, min o.2 33))) => let ⟨e, h1, h3, h4, h5⟩ := fin146 hd hn hMM.memo hO hMM.up (fun x hx => hMM.kids x (by rw [List.take_length]; exact hx)) (by have := hMM.why; rw [List.take_length] at this; exact this) h2; (fun σ' h6 h7 h8 h9 => (e ▸ hK _ bad2 σ' h1 h3 h4 h5 h6 h7 h8 h9 : K (cntA (o.1, min o.2 33)) σ'))
       refine hK' true (by first | decide | simp [badC]) _ (fun p hp => ?_) ?_ ?_ ?_
       ·rcases List.mem_append.1 hp with hp | hp
        ·rcases hMM.new p hp with hp | hp
         ·exact .inl hp
         ·exact .inr (Int.le_of_lt hp)
        ·rw [List.mem_singleton] at hp
         subst hp
         exact .inr (Int.le_refl _)
       ·simp only [xS, upd, q9, m4, m4', k4, n54, n54', m5, m5', k5, n75, n75', n74, n74', m7, m7', k7, kbc, kbc', k4', k7', r4, r7, rc, rm, r4', r7', rc', rm', if_false, if_true, ↓reduceIte]; rfl
       ·simp only [xS, upd, q9, m4, m4', k4, n54, n54', m5, m5', k5, n75, n75', n74, n74', m7, m7', k7, kbc, kbc', k4', k7', r4, r7, rc, rm, r4', r7', rc', rm', if_false, if_true, ↓reduceIte]; rfl
       ·rw [ers_upd]
        repeat (first | exact Frm.refl | exact hF | refine Frm.new ?_ hb4 _ | refine Frm.new ?_ hb5 _ | refine Frm.new ?_ hb7 _ | refine Frm.new ?_ hr0 _ | refine Frm.own ?_ (.inl rfl) _ | refine Frm.own ?_ (.inr rfl) _)
      | false =>
       by_cases hA : 64 < o.1
       ·simp only [go_sem, xP, xR, xS, qc', q4, q7, hdr, minI, maxI, hA, q9, m4, m4', k4, n54, n54', m5, m5', k5, n75, n75', n74, n74', m7, m7', k7, kbc, kbc', k4', k7', r4, r7, rc, rm, r4', r7', rc', rm']
        refine mupB_way (a := (i, _)) us231 way229 (l := m1) (by simp only [upd, q9, m4, m4', k4, n54, n54', m5, m5', k5, n75, n75', n74, n74', m7, m7', k7, kbc, kbc', k4', k7', r4, r7, rc, rm, r4', r7', rc', rm', if_false, if_true, ↓reduceIte]; exact qm) hgm ?_
        simp only [go_sem, xP, xR, xS, q9, m4, m4', k4, n54, n54', m5, m5', k5, n75, n75', n74, n74', m7, m7', k7, kbc, kbc', k4', k7', r4, r7, rc, rm, r4', r7', rc', rm', qc', q4, q7, hdr, cntA, minI]
        have hK' := fun bad2 (h2 : bad2 = (false || badC (o.1, min o.2 33))) => let ⟨e, h1, h3, h4, h5⟩ := fin146 hd hn hMM.memo hO hMM.up (fun x hx => hMM.kids x (by rw [List.take_length]; exact hx)) (by have := hMM.why; rw [List.take_length] at this; exact this) h2; (fun σ' h6 h7 h8 h9 => (e ▸ hK _ bad2 σ' h1 h3 h4 h5 h6 h7 h8 h9 : K (cntA (o.1, min o.2 33)) σ'))
        refine hK' true (by first | decide | simp [badC, hA]) _ (fun p hp => ?_) ?_ ?_ ?_
        ·rcases List.mem_append.1 hp with hp | hp
         ·rcases hMM.new p hp with hp | hp
          ·exact .inl hp
          ·exact .inr (Int.le_of_lt hp)
         ·rw [List.mem_singleton] at hp
          subst hp
          exact .inr (Int.le_refl _)
        ·simp only [xS, upd, q9, m4, m4', k4, n54, n54', m5, m5', k5, n75, n75', n74, n74', m7, m7', k7, kbc, kbc', k4', k7', r4, r7, rc, rm, r4', r7', rc', rm', if_false, if_true, ↓reduceIte]; rfl
        ·simp only [xS, upd, q9, m4, m4', k4, n54, n54', m5, m5', k5, n75, n75', n74, n74', m7, m7', k7, kbc, kbc', k4', k7', r4, r7, rc, rm, r4', r7', rc', rm', if_false, if_true, ↓reduceIte]; rfl
        ·rw [ers_upd]
         repeat (first | exact Frm.refl | exact hF | refine Frm.new ?_ hb4 _ | refine Frm.new ?_ hb5 _ | refine Frm.new ?_ hb7 _ | refine Frm.new ?_ hr0 _ | refine Frm.own ?_ (.inl rfl) _ | refine Frm.own ?_ (.inr rfl) _)
       ·by_cases hB : 32 < o.2
        ·have hB' : 32 < min o.2 33 := by omega
         simp only [go_sem, xP, xR, xS, qc', q4, q7, hdr, minI, maxI, hA, hB, q9, m4, m4', k4, n54, n54', m5, m5', k5, n75, n75', n74, n74', m7, m7', k7, kbc, kbc', k4', k7', r4, r7, rc, rm, r4', r7', rc', rm']
         refine mupB_way (a := (i, _)) us231 way229 (l := m1) (by simp only [upd, q9, m4, m4', k4, n54, n54', m5, m5', k5, n75, n75', n74, n74', m7, m7', k7, kbc, kbc', k4', k7', r4, r7, rc, rm, r4', r7', rc', rm', if_false, if_true, ↓reduceIte]; exact qm) hgm ?_
         simp only [go_sem, xP, xR, xS, q9, m4, m4', k4, n54, n54', m5, m5', k5, n75, n75', n74, n74', m7, m7', k7, kbc, kbc', k4', k7', r4, r7, rc, rm, r4', r7', rc', rm', qc', q4, q7, hdr, cntA, minI]
         have hK' := fun bad2 (h2 : bad2 = (false || badC (o.1, min o.2 33))) => let ⟨e, h1, h3, h4, h5⟩ := fin146 hd hn hMM.memo hO hMM.up (fun x hx => hMM.kids x (by rw [List.take_length]; exact hx)) (by have := hMM.why; rw [List.take_length] at this; exact this) h2; (fun σ' h6 h7 h8 h9 => (e ▸ hK _ bad2 σ' h1 h3 h4 h5 h6 h7 h8 h9 : K (cntA (o.1, min o.2 33)) σ'))
         refine hK' true (by first | decide | simp [badC, hB']) _ (fun p hp => ?_) ?_ ?_ ?_
         ·rcases List.mem_append.1 hp with hp | hp
          ·rcases hMM.new p hp with hp | hp
           ·exact .inl hp
           ·exact .inr (Int.le_of_lt hp)
          ·rw [List.mem_singleton] at hp
           subst hp
           exact .inr (Int.le_refl _)
         ·simp only [xS, upd, q9, m4, m4', k4, n54, n54', m5, m5', k5, n75, n75', n74, n74', m7, m7', k7, kbc, kbc', k4', k7', r4, r7, rc, rm, r4', r7', rc', rm', if_false, if_true, ↓reduceIte]; rfl
         ·simp only [xS, upd, q9, m4, m4', k4, n54, n54', m5, m5', k5, n75, n75', n74, n74', m7, m7', k7, kbc, kbc', k4', k7', r4, r7, rc, rm, r4', r7', rc', rm', if_false, if_true, ↓reduceIte]; rfl
         ·rw [ers_upd]
          repeat (first | exact Frm.refl | exact hF | refine Frm.new ?_ hb4 _ | refine Frm.new ?_ hb5 _ | refine Frm.new ?_ hb7 _ | refine Frm.new ?_ hr0 _ | refine Frm.own ?_ (.inl rfl) _ | refine Frm.own ?_ (.inr rfl) _)
        ·have hB' : ¬ 32 < min o.2 33 := by omega
         simp only [go_sem, xP, xR, xS, qc', q4, q7, hdr, minI, maxI, hA, hB, q9, m4, m4', k4, n54, n54', m5, m5', k5, n75, n75', n74, n74', m7, m7', k7, kbc, kbc', k4', k7', r4, r7, rc, rm, r4', r7', rc', rm']
         refine mupB_way (a := (i, _)) us231 way229 (l := m1) (by simp only [upd, q9, m4, m4', k4, n54, n54', m5, m5', k5, n75, n75', n74, n74', m7, m7', k7, kbc, kbc', k4', k7', r4, r7, rc, rm, r4', r7', rc', rm', if_false, if_true, ↓reduceIte]; exact qm) hgm ?_
         simp only [go_sem, xP, xR, xS, q9, m4, m4', k4, n54, n54', m5, m5', k5, n75, n75', n74, n74', m7, m7', k7, kbc, kbc', k4', k7', r4, r7, rc, rm, r4', r7', rc', rm', qc', q4, q7, hdr, cntA, minI]
         have hK' := fun bad2 (h2 : bad2 = (false || badC (o.1, min o.2 33))) => let ⟨e, h1, h3, h4, h5⟩ := fin146 hd hn hMM.memo hO hMM.up (fun x hx => hMM.kids x (by rw [List.take_length]; exact hx)) (by have := hMM.why; rw [List.take_length] at this; exact this) h2; (fun σ' h6 h7 h8 h9 => (e ▸ hK _ bad2 σ' h1 h3 h4 h5 h6 h7 h8 h9 : K (cntA (o.1, min o.2 33)) σ'))
         refine hK' false (by first | decide | simp [badC, hA, hB']) _ (fun p hp => ?_) ?_ ?_ ?_
         ·rcases List.mem_append.1 hp with hp | hp
          ·rcases hMM.new p hp with hp | hp
           ·exact .inl hp
           ·exact .inr (Int.le_of_lt hp)
          ·rw [List.mem_singleton] at hp
           subst hp
           exact .inr (Int.le_refl _)
         ·simp only [xS, upd, q9, m4, m4', k4, n54, n54', m5, m5', k5, n75, n75', n74, n74', m7, m7', k7, kbc, kbc', k4', k7', r4, r7, rc, rm, r4', r7', rc', rm', if_false, if_true, ↓reduceIte]; rfl
         ·simp only [xS, upd, q9, m4, m4', k4, n54, n54', m5, m5', k5, n75, n75', n74, n74', m7, m7', k7, kbc, kbc', k4', k7', r4, r7, rc, rm, r4', r7', rc', rm', if_false, if_true, ↓reduceIte]; rfl
         ·rw [ers_upd]
          repeat (first | exact Frm.refl | exact hF | refine Frm.new ?_ hb4 _ | refine Frm.new ?_ hb5 _ | refine Frm.new ?_ hb7 _ | refine Frm.new ?_ hr0 _ | refine Frm.own ?_ (.inl rfl) _ | refine Frm.own ?_ (.inr rfl) _)
    ·rintro e σ' r hr' hF hd
     exact hF.elim
   ·have hk2 : 2 ≤ n.kind := by unfold kindW at hk; split at hk <;> omega
    have hkl := (hok1.form hk2).2.1
    simp only [go_sem, xP, xR, xS, hbc', m4, m4', k4, cntA, n54, n54', m5, m5', k5, n75, n75', n74, n74', m7, m7', k7, hk, e40, e41, e42, e43, hG2]
    refine callB_use (f223 f i b) rfl ?_
    simp only [go_sem, xP, xR, xS, hbc', m4, m4', k4, cntA, n54, n54', m5, m5', k5, n75, n75', n74, n74', m7, m7', k7, hk]
    refine SemC.rangeE (xs := waysX n b) (D := ownD n) (E := noD) (pre := fun _ => True) (f := 252) (first := []) (captured := [.pp (fmC f) 0, .pp [int i, .v (.bool b)] 0]) mixed (by simp only [go_sem, xP, xR, xS]) (f252 f i b n hn hkf) (by decide) (by kernel_rfl) (by kernel_rfl) own_ctl noD_ctl (fun _ _ _ _ _ _ => trivial)
     (fun k σ' => ∃ m1 bad1, Mid f.nodes i n b m bad k m1 bad1 ∧ σ' bc = some (cntRow f bm bad1) ∧ σ' bm = some (.map (mapW m1)) ∧ σ' b4 = some (.row [int 0, int 0] 2 1) ∧ σ' b7 = some (.row [int (((subC f.nodes n b).take k).foldl stepO (0, 0)).1, int (((subC f.nodes n b).take k).foldl stepO (0, 0)).2] 2 1) ∧  Frm bc bm σ σ')
     (fun e σ' => False)
     (fun k x ρ1 σ' => ∃ (j b8 : Nat) (m1 : List (WayT × AV)) (bad1 : Bool), (n.kids[k]? = some (j : Int) ∧ ρ1 2 = .pp [.v (.pointer (some ⟨bc, 0, none⟩))] 0 ∧ ρ1 7 = .v (.pointer (some ⟨b7, 0, none⟩)) ∧ ρ1 12 = .v (.pointer (some ⟨b8, 0, none⟩)) ∧  Mid f.nodes i n b m bad k m1 bad1) ∧ σ' b8 = some (.row [int j, .v (.bool (b != decide (n.kind = 2)))] 2 1) ∧ σ' bc = some (cntRow f bm bad1) ∧ σ' bm = some (.map (mapW m1)) ∧ σ' b4 = some (.row [int 0, int 0] 2 1) ∧ σ' b7 = some (.row [int (((subC f.nodes n b).take k).foldl stepO (0, 0)).1, int (((subC f.nodes n b).take k).foldl stepO (0, 0)).2] 2 1) ∧  Frm bc bm σ σ')
     (by intros; repeat' (first | exact Closed.row (fun h => h) | exact Closed.map (fun h => h) | exact Frm.closed (fun x hx => by first | exact hx | exact (un hx).2 | exact (un (un hx).2).2 | exact (un (un (un hx).2).2).2 | exact (un (un (un (un hx).2).2).2).2) | exact Closed.const _ | refine Closed.ex fun _ => ?_ | refine Closed.and ?_ ?_))
     (by intros; repeat' (first | exact Closed.row (fun h => h) | exact Closed.map (fun h => h) | exact Frm.closed (fun x hx => by first | exact hx | exact (un hx).2 | exact (un (un hx).2).2 | exact (un (un (un hx).2).2).2 | exact (un (un (un (un hx).2).2).2).2) | exact Closed.const _ | refine Closed.ex fun _ => ?_ | refine Closed.and ?_ ?_))
     (by intros; repeat' (first | exact Closed.row (fun h => h) | exact Closed.map (fun h => h) | exact Frm.closed (fun x hx => by first | exact hx | exact (un hx).2 | exact (un (un hx).2).2 | exact (un (un (un hx).2).2).2 | exact (un (un (un (un hx).2).2).2).2) | exact Closed.const _ | refine Closed.ex fun _ => ?_ | refine Closed.and ?_ ?_))
     ?_ ?_ ?_ ?_ ?_
    ·exact ⟨m, bad, Mid.zero hm, by simp only [go_sem, xP, xR, xS, m4, m5, m7]; exact hbc, by simp only [go_sem, xP, xR, xS, k4, k5, k7]; exact hbm, by simp only [go_sem, xP, xR, xS, n54', n74'], by simp [upd, int], ((Frm.refl.new hb4 _).new hb5 _).new hb7 _⟩
    ·rintro k x E σ' lq hE hx ⟨m1, bad1, hM, qc, qm, q4, q7,  hF⟩
     obtain ⟨c, hc', rfl⟩ := waysX_get hx
     obtain ⟨j, rfl⟩ := Int.eq_ofNat_of_zero_le (hd i n hn c (mem_of_get hc')).1
     have e2 : E 2 = .pp [.v (.pointer (some ⟨bc, 0, none⟩))] 0 := by rw [hE 2 (by decide)]; simp only [go_sem, xP, xR, xS]
     have e7 : E 7 = .v (.pointer (some ⟨b7, 0, none⟩)) := by rw [hE 7 (by decide)]; simp only [go_sem, xP, xR, xS]
     skip
     simp only [go_sem, xP, xR, xS, e2, e7]
     intro b8 hb8
     have x4 : ¬ b4 = b8 := nn hb8 q4
     have x7 : ¬ b7 = b8 := nn hb8 q7
     have xc : ¬ bc = b8 := nn hb8 qc
     have xm : ¬ bm = b8 := nn hb8 qm
     skip
     simp only [go_sem, xP, xR, xS, e2, e7, hc']
     refine ⟨(Keep.refl _ _).upd (keep_none hb8), j, b8, m1, bad1, ?_⟩
     simp only [go_sem, xP, xR, xS, e2, e7, hc', x4, x7, xc, xm, q4, q7, qc, qm, hc']
     exact ⟨hM, hF.fresh hb8 _⟩
    ·rintro k x ρ1 σ' lq hx ⟨j, b8, m1, bad1, ⟨hc', h2, h7, h8, hM⟩, q8, qc, qm, q4, q7, hF⟩
     simp only [go_sem, xP, xR, xS, h2, h7, h8, q8]
     obtain ⟨nc, hnc⟩ : ∃ nc, f.nodes[j]? = some nc := ⟨f.nodes[j]'(by have := (hd i n hn _ (mem_of_get hc')).2; have := lt_of_getElem? hn; omega), List.getElem?_eq_getElem _⟩
     have hji : (j : Int) < (i : Int) := (hd i n hn _ (mem_of_get hc')).2
     refine callB_a (ih j (b != decide (n.kind = 2)) nc m1 bad1 _ _ (by omega) hnc qc qm hM.memo ?_) rfl
     intro m2 bad2 σ2 hm2 u1 u2 u3 u4 qc2 qm2 hF2
     have q42 : σ2 b4 = some (.row [int 0, int 0] 2 1) := hF2 b4 _ m4' k4' q4
     have q72 : σ2 b7 = some (.row [int (((subC f.nodes n b).take k).foldl stepO (0, 0)).1, int (((subC f.nodes n b).take k).foldl stepO (0, 0)).2] 2 1) := hF2 b7 _ m7' k7' q7
     have hK2 := Frm.keep (n := n) qc own_cnt qm hF2
     have hM2 := hM.succ hc' hji hm2 u1 u2 u3 u4
     have hFF := hF.trans hF2
     have hcb := cntW_bd f.nodes ((j : Int), b != decide (n.kind = 2))
     have hsg := subC_get (l := f.nodes) (b := b) hc'
     have htk := take_succ hsg
     obtain ⟨p1, p2, p3, p4⟩ := foldO_bd ((subC f.nodes n b).take k) (0, 0) (fun c hc => subC_bd c (List.mem_of_mem_take hc)) (by simp [bdC])
     rw [htk, List.foldl_append]
     generalize ((subC f.nodes n b).take k).foldl stepO (0, 0) = o at q72 p1 p2 p3 p4 q7 ⊢
     obtain ⟨c1, c2, c3, c4⟩ := hcb
     generalize cntW f.nodes ((j : Int), b != decide (n.kind = 2)) = c at c1 c2 c3 c4 ⊢
     have hw1 : IntKind.i64.wrap (o.1 + c.1) = o.1 + c.1 := wrap_i64 _ (by omega) (by omega)
     simp only [go_sem, xP, xR, xS, h2, h7, h8, q72, cntA]
     intro b11 hb11
     have y7 : ¬ b7 = b11 := nn hb11 q72
     have y4 : ¬ b4 = b11 := nn hb11 q42
     have yc : ¬ bc = b11 := nn hb11 qc2
     have ym : ¬ bm = b11 := nn hb11 qm2
     have y7' : ¬ b11 = b7 := fun e => y7 e.symm
     have hKK := (hK2.trans ((Keep.refl _ _).upd (keep_none hb11) (y := some (.row [int c.1, int c.2] 2 1))))
     simp only [go_sem, xP, xR, xS, h2, h7, h8, q72, cntA, y7, y7', minI, maxI, hw1]
     refine ⟨hKK.upd (keep_row q7 (own_row (by decide))), m2, bad2, hM2, ?_⟩
     simp only [go_sem, xP, xR, xS, qc2, qm2, q42, y4, yc, ym, m7, k7, n74']
     exact ⟨by simp [stepO], ((hFF.fresh hb11 _).new hb7 _)⟩
    ·rintro σ' r hr' ⟨m1, bad1, hMM, qc, qm, q4, q7,  hF⟩ hdr
     rw [waysX_len] at hMM
     rw [waysX_len, ← subC_len (l := f.nodes) (b := b), List.take_length] at q7
     have r4 : ¬ b4 = r := dn hdr q4
     have r7 : ¬ b7 = r := dn hdr q7
     have rc : ¬ bc = r := dn hdr qc
     have rm : ¬ bm = r := fun e => by rw [e, hdr] at qm; cases qm
     have r4' : ¬ r = b4 := fun e => r4 e.symm
     have r7' : ¬ r = b7 := fun e => r7 e.symm
     have rc' : ¬ r = bc := fun e => rc e.symm
     have rm' : ¬ r = bm := fun e => rm e.symm
     have hgm := getW_none hg hMM.new
     have qc' : σ' bc = some (.row [int f.vars, slN f.nodes, .v (.map (some bm)), .v (.bool bad1)] 4 1) := qc
     have hO : outC (kindW n b) b (n.kids.map fun x => cntW f.nodes (x, b != decide (n.kind = 2))) = (subC f.nodes n b).foldl stepO (0, 0) := by rw [hk]; rfl
     generalize (subC f.nodes n b).foldl stepO (0, 0) = o at q7 hO
     have hr0 : σ r = none := (un (un (un hr').2).2).2
     cases bad1 with
     | true =>
      simp only [go_sem, xP, xR, xS, qc', q4, q7, hdr, minI, maxI, m4, m4', k4, n54, n54', m5, m5', k5, n75, n75', n74, n74', m7, m7', k7, kbc, kbc', k4', k7', r4, r7, rc, rm, r4', r7', rc', rm']
      refine mupB_way (a := (i, _)) us231 way229 (l := m1) (by simp only [upd, m4, m4', k4, n54, n54', m5, m5', k5, n75, n75', n74, n74', m7, m7', k7, kbc, kbc', k4', k7', r4, r7, rc, rm, r4', r7', rc', rm', if_false, if_true, ↓reduceIte]; exact qm) hgm ?_
      simp only [go_sem, xP, xR, xS, m4, m4', k4, n54, n54', m5, m5', k5, n75, n75', n74, n74', m7, m7', k7, kbc, kbc', k4', k7', r4, r7, rc, rm, r4', r7', rc', rm', qc', q4, q7, hdr, cntA, minI]
      have hK' := fun bad2 (h2 : bad2 = (true || badC (o.1, min o.2 33))) => let ⟨e, h1, h3, h4, h5⟩ := fin146 hd hn hMM.memo hO hMM.up (fun x hx => hMM.kids x (by rw [List.take_length]; exact hx)) (by have := hMM.why; rw [List.take_length] at this; exact this) h2; (fun σ' h6 h7 h8 h9 => (e ▸ hK _ bad2 σ' h1 h3 h4 h5 h6 h7 h8 h9 : K (cntA (o.1, min o.2 33)) σ'))
      refine hK' true (by first | decide | simp [badC]) _ (fun p hp => ?_) ?_ ?_ ?_
      ·rcases List.mem_append.1 hp with hp | hp
       ·rcases hMM.new p hp with hp | hp
        ·exact .inl hp
        ·exact .inr (Int.le_of_lt hp)
       ·rw [List.mem_singleton] at hp
        subst hp
        exact .inr (Int.le_refl _)
      ·simp only [xS, upd, m4, m4', k4, n54, n54', m5, m5', k5, n75, n75', n74, n74', m7, m7', k7, kbc, kbc', k4', k7', r4, r7, rc, rm, r4', r7', rc', rm', if_false, if_true, ↓reduceIte]; rfl
      ·simp only [xS, upd, m4, m4', k4, n54, n54', m5, m5', k5, n75, n75', n74, n74', m7, m7', k7, kbc, kbc', k4', k7', r4, r7, rc, rm, r4', r7', rc', rm', if_false, if_true, ↓reduceIte]; rfl
      ·rw [ers_upd]
       repeat (first | exact Frm.refl | exact hF | refine Frm.new ?_ hb4 _ | refine Frm.new ?_ hb5 _ | refine Frm.new ?_ hb7 _ | refine Frm.new ?_ hr0 _ | refine Frm.own ?_ (.inl rfl) _ | refine Frm.own ?_ (.inr rfl) _)
     | false =>
      by_cases hA : 64 < o.1
      ·simp only [go_sem, xP, xR, xS, qc', q4, q7, hdr, minI, maxI, hA, m4, m4', k4, n54, n54', m5, m5', k5, n75, n75', n74, n74', m7, m7', k7, kbc, kbc', k4', k7', r4, r7, rc, rm, r4', r7', rc', rm']
       refine mupB_way (a := (i, _)) us231 way229 (l := m1) (by simp only [upd, m4, m4', k4, n54, n54', m5, m5', k5, n75, n75', n74, n74', m7, m7', k7, kbc, kbc', k4', k7', r4, r7, rc, rm, r4', r7', rc', rm', if_false, if_true, ↓reduceIte]; exact qm) hgm ?_
       simp only [go_sem, xP, xR, xS, m4, m4', k4, n54, n54', m5, m5', k5, n75, n75', n74, n74', m7, m7', k7, kbc, kbc', k4', k7', r4, r7, rc, rm, r4', r7', rc', rm', qc', q4, q7, hdr, cntA, minI]
       have hK' := fun bad2 (h2 : bad2 = (false || badC (o.1, min o.2 33))) => let ⟨e, h1, h3, h4, h5⟩ := fin146 hd hn hMM.memo hO hMM.up (fun x hx => hMM.kids x (by rw [List.take_length]; exact hx)) (by have := hMM.why; rw [List.take_length] at this; exact this) h2; (fun σ' h6 h7 h8 h9 => (e ▸ hK _ bad2 σ' h1 h3 h4 h5 h6 h7 h8 h9 : K (cntA (o.1, min o.2 33)) σ'))
       refine hK' true (by first | decide | simp [badC, hA]) _ (fun p hp => ?_) ?_ ?_ ?_
       ·rcases List.mem_append.1 hp with hp | hp
        ·rcases hMM.new p hp with hp | hp
         ·exact .inl hp
         ·exact .inr (Int.le_of_lt hp)
        ·rw [List.mem_singleton] at hp
         subst hp
         exact .inr (Int.le_refl _)
       ·simp only [xS, upd, m4, m4', k4, n54, n54', m5, m5', k5, n75, n75', n74, n74', m7, m7', k7, kbc, kbc', k4', k7', r4, r7, rc, rm, r4', r7', rc', rm', if_false, if_true, ↓reduceIte]; rfl
       ·simp only [xS, upd, m4, m4', k4, n54, n54', m5, m5', k5, n75, n75', n74, n74', m7, m7', k7, kbc, kbc', k4', k7', r4, r7, rc, rm, r4', r7', rc', rm', if_false, if_true, ↓reduceIte]; rfl
       ·rw [ers_upd]
        repeat (first | exact Frm.refl | exact hF | refine Frm.new ?_ hb4 _ | refine Frm.new ?_ hb5 _ | refine Frm.new ?_ hb7 _ | refine Frm.new ?_ hr0 _ | refine Frm.own ?_ (.inl rfl) _ | refine Frm.own ?_ (.inr rfl) _)
      ·by_cases hB : 32 < o.2
       ·have hB' : 32 < min o.2 33 := by omega
        simp only [go_sem, xP, xR, xS, qc', q4, q7, hdr, minI, maxI, hA, hB, m4, m4', k4, n54, n54', m5, m5', k5, n75, n75', n74, n74', m7, m7', k7, kbc, kbc', k4', k7', r4, r7, rc, rm, r4', r7', rc', rm']
        refine mupB_way (a := (i, _)) us231 way229 (l := m1) (by simp only [upd, m4, m4', k4, n54, n54', m5, m5', k5, n75, n75', n74, n74', m7, m7', k7, kbc, kbc', k4', k7', r4, r7, rc, rm, r4', r7', rc', rm', if_false, if_true, ↓reduceIte]; exact qm) hgm ?_
        simp only [go_sem, xP, xR, xS, m4, m4', k4, n54, n54', m5, m5', k5, n75, n75', n74, n74', m7, m7', k7, kbc, kbc', k4', k7', r4, r7, rc, rm, r4', r7', rc', rm', qc', q4, q7, hdr, cntA, minI]
        have hK' := fun bad2 (h2 : bad2 = (false || badC (o.1, min o.2 33))) => let ⟨e, h1, h3, h4, h5⟩ := fin146 hd hn hMM.memo hO hMM.up (fun x hx => hMM.kids x (by rw [List.take_length]; exact hx)) (by have := hMM.why; rw [List.take_length] at this; exact this) h2; (fun σ' h6 h7 h8 h9 => (e ▸ hK _ bad2 σ' h1 h3 h4 h5 h6 h7 h8 h9 : K (cntA (o.1, min o.2 33)) σ'))
        refine hK' true (by first | decide | simp [badC, hB']) _ (fun p hp => ?_) ?_ ?_ ?_
        ·rcases List.mem_append.1 hp with hp | hp
         ·rcases hMM.new p hp with hp | hp
          ·exact .inl hp
          ·exact .inr (Int.le_of_lt hp)
         ·rw [List.mem_singleton] at hp
          subst hp
          exact .inr (Int.le_refl _)
        ·simp only [xS, upd, m4, m4', k4, n54, n54', m5, m5', k5, n75, n75', n74, n74', m7, m7', k7, kbc, kbc', k4', k7', r4, r7, rc, rm, r4', r7', rc', rm', if_false, if_true, ↓reduceIte]; rfl
        ·simp only [xS, upd, m4, m4', k4, n54, n54', m5, m5', k5, n75, n75', n74, n74', m7, m7', k7, kbc, kbc', k4', k7', r4, r7, rc, rm, r4', r7', rc', rm', if_false, if_true, ↓reduceIte]; rfl
        ·rw [ers_upd]
         repeat (first | exact Frm.refl | exact hF | refine Frm.new ?_ hb4 _ | refine Frm.new ?_ hb5 _ | refine Frm.new ?_ hb7 _ | refine Frm.new ?_ hr0 _ | refine Frm.own ?_ (.inl rfl) _ | refine Frm.own ?_ (.inr rfl) _)
       ·have hB' : ¬ 32 < min o.2 33 := by omega
        simp only [go_sem, xP, xR, xS, qc', q4, q7, hdr, minI, maxI, hA, hB, m4, m4', k4, n54, n54', m5, m5', k5, n75, n75', n74, n74', m7, m7', k7, kbc, kbc', k4', k7', r4, r7, rc, rm, r4', r7', rc', rm']
        refine mupB_way (a := (i, _)) us231 way229 (l := m1) (by simp only [upd, m4, m4', k4, n54, n54', m5, m5', k5, n75, n75', n74, n74', m7, m7', k7, kbc, kbc', k4', k7', r4, r7, rc, rm, r4', r7', rc', rm', if_false, if_true, ↓reduceIte]; exact qm) hgm ?_
        simp only [go_sem, xP, xR, xS, m4, m4', k4, n54, n54', m5, m5', k5, n75, n75', n74, n74', m7, m7', k7, kbc, kbc', k4', k7', r4, r7, rc, rm, r4', r7', rc', rm', qc', q4, q7, hdr, cntA, minI]
        have hK' := fun bad2 (h2 : bad2 = (false || badC (o.1, min o.2 33))) => let ⟨e, h1, h3, h4, h5⟩ := fin146 hd hn hMM.memo hO hMM.up (fun x hx => hMM.kids x (by rw [List.take_length]; exact hx)) (by have := hMM.why; rw [List.take_length] at this; exact this) h2; (fun σ' h6 h7 h8 h9 => (e ▸ hK _ bad2 σ' h1 h3 h4 h5 h6 h7 h8 h9 : K (cntA (o.1, min o.2 33)) σ'))
        refine hK' false (by first | decide | simp [badC, hA, hB']) _ (fun p hp => ?_) ?_ ?_ ?_
        ·rcases List.mem_append.1 hp with hp | hp
         ·rcases hMM.new p hp with hp | hp
          ·exact .inl hp
          ·exact .inr (Int.le_of_lt hp)
         ·rw [List.mem_singleton] at hp
          subst hp
          exact .inr (Int.le_refl _)
        ·simp only [xS, upd, m4, m4', k4, n54, n54', m5, m5', k5, n75, n75', n74, n74', m7, m7', k7, kbc, kbc', k4', k7', r4, r7, rc, rm, r4', r7', rc', rm', if_false, if_true, ↓reduceIte]; rfl
        ·simp only [xS, upd, m4, m4', k4, n54, n54', m5, m5', k5, n75, n75', n74, n74', m7, m7', k7, kbc, kbc', k4', k7', r4, r7, rc, rm, r4', r7', rc', rm', if_false, if_true, ↓reduceIte]; rfl
        ·rw [ers_upd]
         repeat (first | exact Frm.refl | exact hF | refine Frm.new ?_ hb4 _ | refine Frm.new ?_ hb5 _ | refine Frm.new ?_ hb7 _ | refine Frm.new ?_ hr0 _ | refine Frm.own ?_ (.inl rfl) _ | refine Frm.own ?_ (.inr rfl) _)
    ·rintro e σ' r hr' hF hd
     exact hF.elim
theorem f274 (n : Nat) (hn : Fits n) (σ : Sig) (K : AV → Sig → Prop) (hK : ∀ a σ', Made σ 2 [] 0 a σ' → K a σ') : ACalls Tryz.prog Γ 274 [.v (.slice none 0 0), int n] σ K := by
 refine acalls (ok274 Γ) ?_
 have hneg : ((n : Int) < 0) = False := eq_false (by omega)
 have hw : IntKind.i64.wrap (n : Int) = n := wrap_nat n (by omega)
 have hw0 : IntKind.i64.wrap (0 : Int) = 0 := rfl
 by_cases h : 0 < n
 ·have h' : ((0 : Int) < n) = True := eq_true (by omega)
  simp only [go_sem, xP, xR, xS, Tryz.f274, hneg, hw, hw0, Int.sub_zero, h', true_or]
  refine appB_make (appM el32 tk94 by94 us3 (by decide) rfl (by decide)) (by omega) h (fun b c hb hc => ?_)
  simp only [go_sem, xP, xR, xS, hneg, hw, hw0, Int.sub_zero, h']
  exact hK _ _ (.inr ⟨b, c, hb, rfl, rfl, rfl⟩)
 ·have h' : ((0 : Int) < n) = False := eq_false (by omega)
  simp only [go_sem, xP, xR, xS, Tryz.f274, hneg, hw, hw0, Int.sub_zero, h']
  exact hK _ _ (.inl ⟨.inl rfl, rfl, rfl, rfl⟩)
theorem f273 (n : Nat) (hn : Fits n) (σ : Sig) (K : AV → Sig → Prop) (hK : ∀ a σ', Made σ 1 [] 0 a σ' → K a σ') : ACalls Tryz.prog Γ 273 [.v (.slice none 0 0), int n] σ K := by
 refine acalls (ok273 Γ) ?_
 have hneg : ((n : Int) < 0) = False := eq_false (by omega)
 have hw : IntKind.i64.wrap (n : Int) = n := wrap_nat n (by omega)
 have hw0 : IntKind.i64.wrap (0 : Int) = 0 := rfl
 by_cases h : 0 < n
 ·have h' : ((0 : Int) < n) = True := eq_true (by omega)
  simp only [go_sem, xP, xR, xS, Tryz.f273, hneg, hw, hw0, Int.sub_zero, h', true_or]
  refine appB_make (appM el73 tk32 by32 us3 (by decide) rfl (by decide)) (by omega) h (fun b c hb hc => ?_)
  simp only [go_sem, xP, xR, xS, hneg, hw, hw0, Int.sub_zero, h']
  exact hK _ _ (.inr ⟨b, c, hb, rfl, rfl, rfl⟩)
 ·have h' : ((0 : Int) < n) = False := eq_false (by omega)
  simp only [go_sem, xP, xR, xS, Tryz.f273, hneg, hw, hw0, Int.sub_zero, h']
  exact hK _ _ (.inl ⟨.inl rfl, rfl, rfl, rfl⟩)
theorem Made.grow {σ σ' : Sig} {s n : Nat} {cs : List AV} {a : AV} (h : Made σ s cs n a σ') : Drop σ' σ ∧ Grow σ σ' s a cs n := by
 rcases h with ⟨h1, h2, h3, rfl⟩ | ⟨b, c, h1, rfl, rfl, h2⟩
 ·exact ⟨.refl _, .inl ⟨h1, h2, h3⟩⟩
 ·exact ⟨(Drop.refl σ).upd h1, .inr ⟨b, c, rfl, h1, upd_same _ _ _, h2⟩⟩
theorem flat_succ {α : Type} {l : List (List α)} {k : Nat} {x : List α} (h : l[k]? = some x) : (l.take (k + 1)).flatten = (l.take k).flatten ++ x := by rw [take_succ h]; simp
theorem flat_le {α : Type} {l : List (List α)} (k : Nat) : (l.take k).flatten.length ≤ l.flatten.length := by
 have : (l.take k).flatten.length + (l.drop k).flatten.length = l.flatten.length := by rw [← List.length_append, ← List.flatten_append, List.take_append_drop]
 omega
theorem one_rows (l : List Tm) : (l.flatMap tmC).all AV.one = true := by
 induction l with
 | nil => rfl
 | cons t l ih => rw [List.flatMap_cons, List.all_append, ih]; rfl
theorem one_slT (l : List (List Tm)) : (l.map slT).all AV.one = true := by
 induction l with
 | nil => rfl
 | cons t l ih => rw [List.map_cons, List.all_cons, ih]; rfl
theorem f258 (l : List (List Tm)) (hl : Fits l.length) (hF : Fits l.flatten.length) : PCalls Tryz.prog Γ 258 [slC l] (slT l.flatten) := by
 refine pcalls (ok258 Γ) fun σ => ?_
 simp only [go_sem, xP, xR, xS, Tryz.f258]
 refine SemC.loopK mixed l.length (fun k ρ σ' ds => σ' = σ ∧ ds = [] ∧ ρ 0 = slC l ∧ ρ 3 = int (l.take k).flatten.length ∧ ρ 9 = slC l ∧ ρ 10 = int l.length ∧ ρ 11 = int k) (by kernel_rfl) ⟨rfl, rfl, rfl, rfl, rfl, rfl, rfl⟩ ?_
 rintro k ρ σ' ds hk ⟨rfl, rfl, h0, h3, h9, h10, h11⟩
 rcases get_or_end l k hk with ⟨x, hx, hlt, hd⟩ | rfl
 ·have hfl := flat_le (l := l) (k + 1)
  rw [flat_succ hx, List.length_append] at hfl
  have hw : IntKind.i64.wrap (((l.take k).flatten.length : Int) + x.length) = (((l.take k).flatten.length + x.length : Nat) : Int) := by rw [← Int.natCast_add]; exact wrap_nat _ (by omega)
  have hneg : ((((l.take k).flatten.length + x.length : Nat) : Int) < 0) = False := eq_false (by omega)
  simp only [go_sem, xP, xR, xS, h0, h3, h9, h10, h11, hlt, hx, hw, hneg]
  exact ⟨by rw [flat_succ hx, List.length_append], by rw [wrap_succ _ (by omega)]⟩
 ·rw [List.take_length] at h3
  simp only [go_sem, xP, xR, xS, h0, h3, h9, h10, h11, Nat.lt_irrefl]
  refine callB_a (f274 l.flatten.length hF σ' _ (fun a σ1 hm => ?_)) rfl
  obtain ⟨hD1, hG1⟩ := hm.grow
  simp only [go_sem, xP, xR, xS, h0, h3, h9, h10, h11]
  refine SemC.loopK mixed l.length (fun k ρ σ2 ds => Drop σ2 σ' ∧ ds = [] ∧ ρ 25 = slC l ∧ ρ 26 = int l.length ∧ ρ 27 = int k ∧ Grow σ' σ2 2 (ρ 6) ((l.take k).flatten.flatMap tmC) (l.take k).flatten.length) (by kernel_rfl) ⟨hD1, rfl, by simp only [go_sem, xP, xR, xS, h0], rfl, rfl, hG1⟩ ?_
  rintro k ρ σ2 ds hk ⟨hD, rfl, h25, h26, h27, hG⟩
  rcases get_or_end l k hk with ⟨x, hx, hlt, hd⟩ | rfl
  ·have hfl := flat_le (l := l) (k + 1)
   rw [flat_succ hx, List.length_append] at hfl
   simp only [go_sem, xP, xR, xS, h25, h26, h27, hlt, hx]
   refine appB_sl (appT_sl el32 tk94 by94 el32 (by decide) rfl (by decide)) hD hG (one_rows x) (rows_length tmC_len) (by omega) (fun a' σ3 hD2 hO hG2 => ?_)
   simp only [go_sem, xP, xR, xS, h25, h26, h27]
   refine ⟨hD2, by rw [wrap_succ _ (by omega)], ?_⟩
   rw [flat_succ hx, List.length_append, List.flatMap_append]
   exact hG2
  ·rw [List.take_length] at hG
   simp only [go_sem, xP, xR, xS, h25, h26, h27, Nat.lt_irrefl]
   exact hG.retP hD
theorem f257 (l : List (List (List Tm))) (hl : Fits l.length) (hF : Fits l.flatten.length) : PCalls Tryz.prog Γ 257 [slCC l] (slC l.flatten) := by
 refine pcalls (ok257 Γ) fun σ => ?_
 simp only [go_sem, xP, xR, xS, Tryz.f257]
 refine SemC.loopK mixed l.length (fun k ρ σ' ds => σ' = σ ∧ ds = [] ∧ ρ 0 = slCC l ∧ ρ 3 = int (l.take k).flatten.length ∧ ρ 9 = slCC l ∧ ρ 10 = int l.length ∧ ρ 11 = int k) (by kernel_rfl) ⟨rfl, rfl, rfl, rfl, rfl, rfl, rfl⟩ ?_
 rintro k ρ σ' ds hk ⟨rfl, rfl, h0, h3, h9, h10, h11⟩
 rcases get_or_end l k hk with ⟨x, hx, hlt, hd⟩ | rfl
 ·have hfl := flat_le (l := l) (k + 1)
  rw [flat_succ hx, List.length_append] at hfl
  have hw : IntKind.i64.wrap (((l.take k).flatten.length : Int) + x.length) = (((l.take k).flatten.length + x.length : Nat) : Int) := by rw [← Int.natCast_add]; exact wrap_nat _ (by omega)
  have hneg : ((((l.take k).flatten.length + x.length : Nat) : Int) < 0) = False := eq_false (by omega)
  simp only [go_sem, xP, xR, xS, h0, h3, h9, h10, h11, hlt, hx, hw, hneg]
  exact ⟨by rw [flat_succ hx, List.length_append], by rw [wrap_succ _ (by omega)]⟩
 ·rw [List.take_length] at h3
  simp only [go_sem, xP, xR, xS, h0, h3, h9, h10, h11, Nat.lt_irrefl]
  refine callB_a (f273 l.flatten.length hF σ' _ (fun a σ1 hm => ?_)) rfl
  obtain ⟨hD1, hG1⟩ := hm.grow
  simp only [go_sem, xP, xR, xS, h0, h3, h9, h10, h11]
  refine SemC.loopK mixed l.length (fun k ρ σ2 ds => Drop σ2 σ' ∧ ds = [] ∧ ρ 25 = slCC l ∧ ρ 26 = int l.length ∧ ρ 27 = int k ∧ Grow σ' σ2 1 (ρ 6) ((l.take k).flatten.map slT) (l.take k).flatten.length) (by kernel_rfl) ⟨hD1, rfl, by simp only [go_sem, xP, xR, xS, h0], rfl, rfl, hG1⟩ ?_
  rintro k ρ σ2 ds hk ⟨hD, rfl, h25, h26, h27, hG⟩
  rcases get_or_end l k hk with ⟨x, hx, hlt, hd⟩ | rfl
  ·have hfl := flat_le (l := l) (k + 1)
   rw [flat_succ hx, List.length_append] at hfl
   simp only [go_sem, xP, xR, xS, h25, h26, h27, hlt, hx]
   refine appB_sl (appT_sl el73 tk32 by32 el73 (by decide) rfl (by decide)) hD hG (one_slT x) (by simp) (by omega) (fun a' σ3 hD2 hO hG2 => ?_)
   simp only [go_sem, xP, xR, xS, h25, h26, h27]
   refine ⟨hD2, by rw [wrap_succ _ (by omega)], ?_⟩
   rw [flat_succ hx, List.length_append, List.map_append]
   exact hG2
  ·rw [List.take_length] at hG
   simp only [go_sem, xP, xR, xS, h25, h26, h27, Nat.lt_irrefl]
   exact hG.retP hD
def prodC (a b : List (List Tm)) : List (List Tm) := a.flatMap fun x => b.map fun y => x ++ y
theorem prodC_succ {a b : List (List Tm)} {k : Nat} {x : List Tm} (h : a[k]? = some x) : prodC (a.take (k + 1)) b = prodC (a.take k) b ++ b.map fun y => x ++ y := by rw [take_succ h, prodC, List.flatMap_append]; simp [prodC]
theorem prodC_len (a b : List (List Tm)) : (prodC a b).length = a.length * b.length := by
 induction a with
 | nil => simp [prodC]
 | cons x a ih => rw [prodC, List.flatMap_cons, List.length_append, List.length_map, List.length_cons, Nat.add_mul, Nat.one_mul, ← prodC, ih]; omega
theorem f256 (a b : List (List Tm)) (ha : a.length ≤ 10000) (hb : b.length ≤ 10000) (hal : ∀ x ∈ a, x.length ≤ 1000000) (hbl : ∀ x ∈ b, x.length ≤ 1000000) : PCalls Tryz.prog Γ 256 [slC a, slC b] (slC (prodC a b)) := by
 refine pcalls (ok256 Γ) fun σ => ?_
 simp only [go_sem, xP, xR, xS, Tryz.f256]
 refine SemC.loopK mixed a.length (fun k ρ σ' ds => Drop σ' σ ∧ ds = [] ∧ ρ 0 = slC a ∧ ρ 1 = slC b ∧ ρ 10 = slC a ∧ ρ 11 = int a.length ∧ ρ 12 = int k ∧ Grow σ σ' 1 (ρ 5) ((prodC (a.take k) b).map slT) (k * b.length)) (by kernel_rfl) ⟨.refl _, rfl, rfl, rfl, rfl, rfl, rfl, by rw [Nat.zero_mul]; exact Grow.nil _ _ _⟩ ?_
 rintro k ρ σ' ds hk ⟨hD, rfl, h0, h1, h10, h11, h12, hG⟩
 rcases get_or_end a k hk with ⟨x, hx, hlt, hd⟩ | hk
 ·by_cases hb0 : b = []
  ·subst hb0
   simp only [go_sem, xP, xR, xS, h0, h1, h10, h11, h12, hlt, hx]
   have e : (prodC (a.take k) []).map slT = ([] : List AV) := by simp [prodC]
   rw [e] at hG
   have := hG.retP hD
   have e2 : prodC a [] = [] := by simp [prodC]
   rw [e2]
   exact this
  ·have hbn : ¬ ((b.length : Int) = 0) := by
    have := List.length_pos_iff.2 hb0
    omega
   have hxl := hal x (mem_of_get hx)
   have hmul : (k + 1) * b.length ≤ 10000 * 10000 := Nat.mul_le_mul (by omega) hb
   simp only [go_sem, xP, xR, xS, h0, h1, h10, h11, h12, hlt, hx, hbn]
   refine SemC.loopK mixed b.length (fun j ρ σ2 ds => Drop σ2 σ ∧ ds = [] ∧ ρ 0 = slC a ∧ ρ 1 = slC b ∧ ρ 7 = slT x ∧ ρ 10 = slC a ∧ ρ 11 = int a.length ∧ ρ 12 = int k ∧ ρ 19 = slC b ∧ ρ 20 = int b.length ∧ ρ 21 = int j ∧ Grow σ σ2 1 (ρ 5) ((prodC (a.take k) b ++ (b.take j).map fun y => x ++ y).map slT) (k * b.length + j)) (by kernel_rfl) ⟨hD, rfl, by simp only [go_sem, xP, xR, xS, h0], by simp only [go_sem, xP, xR, xS, h1], rfl, by simp only [go_sem, xP, xR, xS, h10], by simp only [go_sem, xP, xR, xS, h11], by simp only [go_sem, xP, xR, xS, h12], by simp only [go_sem, xP, xR, xS, h1], rfl, rfl, by simp only [List.take_zero, List.map_nil, List.append_nil, Nat.add_zero]; exact hG⟩ ?_
   rintro j ρ σ2 ds hj ⟨hD, rfl, h0, h1, h7, h10, h11, h12, h19, h20, h21, hG⟩
   rcases get_or_end b j hj with ⟨y, hy, hlt2, hd2⟩ | hjj
   ·have hyl := hbl y (mem_of_get hy)
    simp only [go_sem, xP, xR, xS, h0, h1, h7, h10, h11, h12, h19, h20, h21, hlt2, hy]
    refine callB_use (f258 [x, y] (by simp) (by simp; omega)) rfl ?_
    simp only [go_sem, xP, xR, xS, h0, h1, h7, h10, h11, h12, h19, h20, h21]
    rw [Nat.add_mul] at hmul
    refine appB_sl (appT_sl el73 tk32 by32 el73 (by decide) rfl (by decide)) hD hG rfl rfl (by omega) (fun a' σ3 hD2 hO hG2 => ?_)
    simp only [go_sem, xP, xR, xS, h0, h1, h7, h10, h11, h12, h19, h20, h21]
    refine ⟨hD2, by rw [wrap_succ _ (by omega)], ?_⟩
    rw [take_succ hy]
    simpa [Nat.add_assoc, slT] using hG2
   ·subst hjj
    rw [List.take_length, ← prodC_succ hx] at hG
    simp only [go_sem, xP, xR, xS, h0, h1, h7, h10, h11, h12, h19, h20, h21, Nat.lt_irrefl]
    exact ⟨hlt, hD, by rw [wrap_succ _ (by omega)], by rw [Nat.add_mul, Nat.one_mul]; exact hG⟩
 ·subst hk
  rw [List.take_length] at hG
  simp only [go_sem, xP, xR, xS, h0, h1, h10, h11, h12, Nat.lt_irrefl]
  rw [prodC_len]
  exact hG.retP hD
end Go.AL

namespace Go.AL
def mkC (k : Int) (b : Bool) (t : Tm) (sub : List (List (List Tm))) : List (List Tm) :=
 if k = 0 then [[lessT (if b then oppT t (-1) else t) 0]]
 else if k = 1 then (if b then [[lessT t 1], [oppT t (-1)]] else [[lessT t 0, oppT t 0]])
 else if k = 2 then sub.getLastD []
 else if k = 3 then (if sub.any (fun x => decide (x.length = 0)) then [] else sub.foldl prodC [[]])
 else if k = 4 then sub.flatten else []
def casF (l : List Nd) : Nat → WayT → List (List Tm)
 | 0, _ => []
 | fuel + 1, w => match l[w.1.toNat]? with
  | none => []
  | some n => mkC (kindW n w.2) w.2 n.term (n.kids.map fun x => casF l fuel (x, w.2 != decide (n.kind = 2)))
def casW (l : List Nd) (w : WayT) : List (List Tm) := casF l (w.1.toNat + 1) w
theorem casF_st {l : List Nd} (hd : KidsDown l) : ∀ (fuel fuel' : Nat) (w : WayT), w.1.toNat < fuel → w.1.toNat < fuel' → casF l fuel w = casF l fuel' w
 | 0, _, _, h, _ => by omega
 | _ + 1, 0, _, _, h => by omega
 | fuel + 1, fuel' + 1, w, h, h' => by
  rw [casF, casF]
  cases hn : l[w.1.toNat]? with
  | none => rfl
  | some n =>
   have e : (n.kids.map fun x => casF l fuel (x, w.2 != decide (n.kind = 2))) = n.kids.map fun x => casF l fuel' (x, w.2 != decide (n.kind = 2)) := by
    refine List.map_congr_left fun x hx => ?_
    have := hd _ _ hn x hx
    exact casF_st hd fuel fuel' _ (by simp only; omega) (by simp only; omega)
   simp only [e]
def subW (l : List Nd) (n : Nd) (b : Bool) : List (List (List Tm)) := n.kids.map fun x => casW l (x, b != decide (n.kind = 2))
theorem casW_eq {l : List Nd} (hd : KidsDown l) {i : Nat} {n : Nd} (hn : l[i]? = some n) (b : Bool) : casW l ((i : Int), b) = mkC (kindW n b) b n.term (subW l n b) := by
 have e : (n.kids.map fun x => casF l i (x, b != decide (n.kind = 2))) = subW l n b := by
  refine List.map_congr_left fun x hx => ?_
  have := hd _ _ hn x hx
  exact casF_st hd _ _ _ (by simp only; omega) (by simp only; omega)
 rw [casW]
 simp only [Int.toNat_natCast, casF, hn, e]
def maxL : List (List Tm) → Nat
 | [] => 0
 | x :: l => max x.length (maxL l)
theorem maxL_mem {l : List (List Tm)} {x : List Tm} (h : x ∈ l) : x.length ≤ maxL l := by
 induction l with
 | nil => cases h
 | cons y l ih =>
  rw [maxL]
  rcases List.mem_cons.1 h with rfl | h
  ·exact Nat.le_max_left _ _
  ·exact Nat.le_trans (ih h) (Nat.le_max_right _ _)
theorem maxL_app (a b : List (List Tm)) : maxL (a ++ b) = max (maxL a) (maxL b) := by
 induction a with
 | nil => simp [maxL]
 | cons x a ih => rw [List.cons_append, maxL, maxL, ih]; omega
theorem maxL_map (x : List Tm) {b : List (List Tm)} (h : b ≠ []) : maxL (b.map fun y => x ++ y) = x.length + maxL b := by
 induction b with
 | nil => exact absurd rfl h
 | cons y b ih =>
  rw [List.map_cons, maxL, maxL, List.length_append]
  by_cases hb : b = []
  ·subst hb; simp [maxL]
  ·rw [ih hb]; omega
theorem maxL_prod {a b : List (List Tm)} (ha : a ≠ []) (hb : b ≠ []) : maxL (prodC a b) = maxL a + maxL b := by
 induction a with
 | nil => exact absurd rfl ha
 | cons x a ih =>
  rw [prodC, List.flatMap_cons, maxL_app, maxL_map x hb, maxL]
  by_cases ha' : a = []
  ·subst ha'; simp [maxL]
  ·have := ih ha'
   rw [prodC] at this
   rw [this]
   omega
theorem maxL_zero {a : List (List Tm)} (h : a.length = 0) : maxL a = 0 := by
 have : a = [] := List.eq_nil_of_length_eq_zero h
 subst this; rfl
def sizeC (C : List (List Tm)) : Int × Int := (min (C.length : Int) 65, min (maxL C : Int) 33)
def exC (C : List (List Tm)) : Int × Int := ((C.length : Int), (maxL C : Int))
theorem size_small {C : List (List Tm)} (h1 : C.length ≤ 64) (h2 : maxL C ≤ 32) : sizeC C = exC C := by
 unfold sizeC exC
 rw [Int.min_eq_left (by omega), Int.min_eq_left (by omega)]
theorem size_bad {C : List (List Tm)} : badC (sizeC C) = false ↔ C.length ≤ 64 ∧ maxL C ≤ 32 := by
 unfold badC sizeC
 simp only [Bool.or_eq_false_iff, decide_eq_false_iff_not]
 omega
theorem foldl_A : ∀ (S : List (List (List Tm))) (A : List (List Tm)), (∀ C ∈ S, C ≠ []) → A ≠ [] → (S.map exC).foldl stepA (min (A.length : Int) 65, (maxL A : Int)) = (min ((S.foldl prodC A).length : Int) 65, (maxL (S.foldl prodC A) : Int)) ∧ S.foldl prodC A ≠ []
 | [], A, _, hA => ⟨rfl, hA⟩
 | C :: S, A, h, hA => by
  have hC := h C (by simp)
  have hp : prodC A C ≠ [] := fun e => by
   have := congrArg List.length e
   rw [prodC_len, List.length_nil] at this
   have := List.length_pos_iff.2 hA
   have := List.length_pos_iff.2 hC
   rcases Nat.mul_eq_zero.1 ‹_› with h | h <;> omega
  have e : stepA (min (A.length : Int) 65, (maxL A : Int)) (exC C) = (min ((prodC A C).length : Int) 65, (maxL (prodC A C) : Int)) := by
   have h1 := List.length_pos_iff.2 hC
   rw [prodC_len, maxL_prod hA hC, stepA, exC]
   simp only [Int.natCast_add, Int.natCast_mul, Prod.mk.injEq, and_true]
   by_cases h65 : (A.length : Int) ≤ 65
   ·rw [Int.min_eq_left h65]
   ·have hm : (65 : Int) ≤ (A.length : Int) * (C.length : Int) := by
     have := Int.mul_le_mul (show (65 : Int) ≤ A.length by omega) (show (1 : Int) ≤ C.length by omega) (by decide) (by omega)
     omega
    have hm2 : (65 : Int) ≤ 65 * (C.length : Int) := by omega
    rw [Int.min_eq_right (show (65 : Int) ≤ A.length by omega), Int.min_eq_right hm, Int.min_eq_right hm2]
  rw [List.map_cons, List.foldl_cons, List.foldl_cons, e]
  exact foldl_A S _ (fun D hD => h D (List.mem_cons_of_mem _ hD)) hp
theorem foldl_O : ∀ (S : List (List (List Tm))) (A : List (List Tm)), (S.map exC).foldl stepO (min (A.length : Int) 65, (maxL A : Int)) = (min ((A ++ S.flatten).length : Int) 65, (maxL (A ++ S.flatten) : Int))
 | [], A => by simp
 | C :: S, A => by
  have e : stepO (min (A.length : Int) 65, (maxL A : Int)) (exC C) = (min ((A ++ C).length : Int) 65, (maxL (A ++ C) : Int)) := by
   rw [maxL_app, List.length_append, stepO, exC]
   simp only [Int.natCast_add, Prod.mk.injEq]
   omega
  rw [List.map_cons, List.foldl_cons, e, foldl_O S (A ++ C), List.flatten_cons, List.append_assoc]
theorem size_mk (k : Int) (b : Bool) (t : Tm) (S : List (List (List Tm))) (hk : k = 0 ∨ k = 1 ∨ k = 2 ∨ k = 3 ∨ k = 4) (h2 : k = 2 → ∃ C, S = [C]) (hS : ∀ C ∈ S, C.length ≤ 64) :
  ((outC k b (S.map exC)).1, min (outC k b (S.map exC)).2 33) = sizeC (mkC k b t S) := by
 rcases hk with rfl | rfl | rfl | rfl | rfl
 ·rfl
 ·cases b <;> rfl
 ·obtain ⟨C, rfl⟩ := h2 rfl
  have := hS C (by simp)
  have e : outC 2 b ([C].map exC) = exC C := rfl
  have e2 : mkC 2 b t [C] = C := rfl
  rw [e, e2, exC, sizeC, Int.min_eq_left (show (C.length : Int) ≤ 65 by omega)]
 ·have ha : ((S.map exC).any fun n => decide (n = (0, 0))) = S.any fun x => decide (x.length = 0) := by
   rw [List.any_map]
   congr 1
   funext C
   simp only [Function.comp, exC]
   refine decide_eq_decide.2 ⟨fun h => ?_, fun h => ?_⟩
   ·injection h with h1 _; omega
   ·rw [h, maxL_zero h]; rfl
  have e : outC 3 b (S.map exC) = if (S.map exC).any (fun n => decide (n = (0, 0))) then (0, 0) else (S.map exC).foldl stepA (1, 0) := rfl
  have e2 : mkC 3 b t S = if S.any (fun x => decide (x.length = 0)) then [] else S.foldl prodC [[]] := rfl
  rw [e, e2, ha]
  split
  ·rfl
  ·rename_i h
   obtain ⟨f1, f2⟩ := foldl_A S [[]] (fun C hC e => h (List.any_eq_true.2 ⟨C, hC, by simp [e]⟩)) (by simp)
   have h0 : ((min (([[]] : List (List Tm)).length : Int) 65, (maxL [[]] : Int)) : Int × Int) = (1, 0) := rfl
   rw [h0] at f1
   rw [f1]
   rfl
 ·have e : outC 4 b (S.map exC) = (S.map exC).foldl stepO (0, 0) := rfl
  have e2 : mkC 4 b t S = S.flatten := rfl
  have f := foldl_O S []
  have h0 : ((min (([] : List (List Tm)).length : Int) 65, (maxL [] : Int)) : Int × Int) = (0, 0) := rfl
  rw [h0, List.nil_append] at f
  rw [e, e2, f]
  rfl
theorem kindW_cases {n : Nd} {i : Nat} {vars : Int} (h : NodeOk n i vars) (b : Bool) : kindW n b = 0 ∨ kindW n b = 1 ∨ kindW n b = 2 ∨ kindW n b = 3 ∨ kindW n b = 4 := by
 have := h.lo
 have := h.hi
 unfold kindW
 split <;> omega
theorem cnt_cas {l : List Nd} {vars : Int} (hd : KidsDown l) (hok : ∀ k n, l[k]? = some n → NodeOk n k vars) : ∀ (N i : Nat) (b : Bool) (n : Nd), i < N → l[i]? = some n →
  ((∀ x ∈ n.kids, badW l (x, b != decide (n.kind = 2)) = false) → cntW l ((i : Int), b) = sizeC (casW l ((i : Int), b))) ∧
  (badW l ((i : Int), b) = false → (casW l ((i : Int), b)).length ≤ 64 ∧ maxL (casW l ((i : Int), b)) ≤ 32 ∧ cntW l ((i : Int), b) = exC (casW l ((i : Int), b)))
 | 0, _, _, _, h, _ => by omega
 | N + 1, i, b, n, hi, hn => by
  have h1 : (∀ x ∈ n.kids, badW l (x, b != decide (n.kind = 2)) = false) → cntW l ((i : Int), b) = sizeC (casW l ((i : Int), b)) := fun hk => by
   have hkid : ∀ x ∈ n.kids, (casW l (x, b != decide (n.kind = 2))).length ≤ 64 ∧ cntW l (x, b != decide (n.kind = 2)) = exC (casW l (x, b != decide (n.kind = 2))) := fun x hx => by
    have hxr := hd i n hn x hx
    obtain ⟨j, rfl⟩ := Int.eq_ofNat_of_zero_le hxr.1
    obtain ⟨nc, hnc⟩ : ∃ nc, l[j]? = some nc := ⟨l[j]'(by have := lt_of_getElem? hn; omega), List.getElem?_eq_getElem _⟩
    obtain ⟨a1, a2, a3⟩ := (cnt_cas hd hok N j (b != decide (n.kind = 2)) nc (by omega) hnc).2 (hk _ hx)
    exact ⟨a1, a3⟩
   have hs : (n.kids.map fun x => cntW l (x, b != decide (n.kind = 2))) = (subW l n b).map exC := by
    rw [subW, List.map_map]
    exact List.map_congr_left fun x hx => (hkid x hx).2
   rw [cntW_eq hd hn, casW_eq hd hn, hs]
   refine size_mk _ _ _ _ (kindW_cases (hok i n hn) b) (fun h2 => ?_) (fun C hC => ?_)
   ·have hk2 : n.kind = 2 := by have := (hok i n hn).lo; have := (hok i n hn).hi; unfold kindW at h2; split at h2 <;> omega
    obtain ⟨x, hx⟩ := List.length_eq_one_iff.1 (((hok i n hn).form (by omega)).2.2.1 hk2)
    exact ⟨_, by rw [subW, hx]; rfl⟩
   ·obtain ⟨x, hx, rfl⟩ := List.mem_map.1 hC
    exact (hkid x hx).1
  refine ⟨h1, fun hb => ?_⟩
  rw [badW_eq hd hn, Bool.or_eq_false_iff] at hb
  have e := h1 (fun x hx => by
   have := List.any_eq_false.1 hb.2 x hx
   simpa using this)
  rw [e] at hb
  obtain ⟨a1, a2⟩ := size_bad.1 hb.1
  exact ⟨a1, a2, by rw [e, size_small a1 a2]⟩
theorem bad_kid {l : List Nd} (hd : KidsDown l) {i : Nat} {n : Nd} (hn : l[i]? = some n) {b : Bool} (h : badW l ((i : Int), b) = false) {x : Int} (hx : x ∈ n.kids) : badW l (x, b != decide (n.kind = 2)) = false := by
 rw [badW_eq hd hn, Bool.or_eq_false_iff] at h
 have := List.any_eq_false.1 h.2 x hx
 simpa using this
theorem flat_max (C : List (List Tm)) : C.flatten.length ≤ C.length * maxL C := by
 induction C with
 | nil => simp
 | cons x C ih =>
  rw [List.flatten_cons, List.length_append, List.length_cons, maxL, Nat.add_mul, Nat.one_mul]
  have h1 : C.length * maxL C ≤ C.length * max x.length (maxL C) := Nat.mul_le_mul_left _ (Nat.le_max_right _ _)
  have h2 : x.length ≤ max x.length (maxL C) := Nat.le_max_left _ _
  omega
theorem prod_up : ∀ (S : List (List (List Tm))) (A : List (List Tm)), (∀ C ∈ S, C ≠ []) → A ≠ [] → A.length ≤ (S.foldl prodC A).length ∧ maxL A ≤ maxL (S.foldl prodC A) ∧ S.foldl prodC A ≠ []
 | [], A, _, hA => ⟨Nat.le_refl _, Nat.le_refl _, hA⟩
 | C :: S, A, h, hA => by
  have hC := h C (by simp)
  have hp : prodC A C ≠ [] := fun e => by
   have := congrArg List.length e
   rw [prodC_len, List.length_nil] at this
   have := List.length_pos_iff.2 hA
   have := List.length_pos_iff.2 hC
   rcases Nat.mul_eq_zero.1 ‹_› with h | h <;> omega
  obtain ⟨a1, a2, a3⟩ := prod_up S (prodC A C) (fun D hD => h D (List.mem_cons_of_mem _ hD)) hp
  rw [maxL_prod hA hC] at a2
  rw [prodC_len] at a1
  have := Nat.le_mul_of_pos_right A.length (List.length_pos_iff.2 hC)
  exact ⟨Nat.le_trans this a1, by rw [List.foldl_cons]; omega, a3⟩
theorem prod_part {S : List (List (List Tm))} (h : ∀ C ∈ S, C ≠ []) (k : Nat) : ((S.take k).foldl prodC [[]]).length ≤ (S.foldl prodC [[]]).length ∧ maxL ((S.take k).foldl prodC [[]]) ≤ maxL (S.foldl prodC [[]]) := by
 have h1 := (prod_up (S.take k) [[]] (fun C hC => h C (List.mem_of_mem_take hC)) (by simp)).2.2
 obtain ⟨a1, a2, _⟩ := prod_up (S.drop k) ((S.take k).foldl prodC [[]]) (fun C hC => h C (List.mem_of_mem_drop hC)) h1
 rw [← List.foldl_append, List.take_append_drop] at a1 a2
 exact ⟨a1, a2⟩
def larT (t : Tm) : Bool := decide (largeE t ≠ 0)
def larC (C : List (List Tm)) : Bool := C.flatten.any larT
def larW (l : List Nd) (w : WayT) : Bool := (reachW l w).any fun v => larC (casW l v)
theorem larW_eq {l : List Nd} (hd : KidsDown l) {i : Nat} {n : Nd} (hn : l[i]? = some n) (b : Bool) : larW l ((i : Int), b) = (larC (casW l ((i : Int), b)) || n.kids.any fun x => larW l (x, b != decide (n.kind = 2))) := by
 have e : (n.kids.flatMap fun x => reachFX l i (x, b != decide (n.kind = 2))) = n.kids.flatMap fun x => reachW l (x, b != decide (n.kind = 2)) := by
  rw [List.flatMap_def, List.flatMap_def]
  congr 1
  refine List.map_congr_left fun x hx => ?_
  have := hd _ _ hn x hx
  exact reachF_st hd _ _ _ (by simp only; omega) (by simp only; omega)
 have r : reachW l ((i : Int), b) = ((i : Int), b) :: n.kids.flatMap fun x => reachW l (x, b != decide (n.kind = 2)) := by
  rw [reachW]
  simp only [Int.toNat_natCast, reachFX, hn, e]
 rw [larW, r, List.any_cons, List.any_flatMap]
 rfl
def MemoL (l : List Nd) (m : List (WayT × AV)) (lar : Bool) : Prop := ∀ p ∈ m, p.2 = slC (casW l p.1) ∧ (larW l p.1 = true → lar = true)
theorem MemoL.add {l : List Nd} {m : List (WayT × AV)} {lar lar' : Bool} {w : WayT} (h : MemoL l m lar) (hb : lar = true → lar' = true) (hw : larW l w = true → lar' = true) : MemoL l (m ++ [(w, slC (casW l w))]) lar' := by
 intro p hp
 rcases List.mem_append.1 hp with hp | hp
 ·exact ⟨(h p hp).1, fun hh => hb ((h p hp).2 hh)⟩
 ·rw [List.mem_singleton] at hp
  subst hp
  exact ⟨rfl, hw⟩
theorem MemoL.up {l : List Nd} {m : List (WayT × AV)} {lar lar' : Bool} (h : MemoL l m lar) (hb : lar = true → lar' = true) : MemoL l m lar' := fun p hp => ⟨(h p hp).1, fun hh => hb ((h p hp).2 hh)⟩
structure MidL (l : List Nd) (i : Nat) (n : Nd) (b : Bool) (m : List (WayT × AV)) (lar : Bool) (k : Nat) (m1 : List (WayT × AV)) (lar1 : Bool) : Prop where
 memo : MemoL l m1 lar1
 up : lar = true → lar1 = true
 kids : ∀ x ∈ n.kids.take k, larW l (x, b != decide (n.kind = 2)) = true → lar1 = true
 why : lar1 = true → lar = true ∨ (n.kids.take k).any (fun x => larW l (x, b != decide (n.kind = 2))) = true
 new : ∀ p ∈ m1, p ∈ m ∨ p.1.1 < (i : Int)
theorem MidL.zero {l : List Nd} {i : Nat} {n : Nd} {b : Bool} {m : List (WayT × AV)} {lar : Bool} (h : MemoL l m lar) : MidL l i n b m lar 0 m lar :=
 ⟨h, fun h => h, fun x hx => by simp at hx, fun h => .inl h, fun p hp => .inl hp⟩
theorem MidL.succ {l : List Nd} {i : Nat} {n : Nd} {b : Bool} {m m1 m2 : List (WayT × AV)} {lar lar1 lar2 : Bool} {k : Nat} {x : Int} (h : MidL l i n b m lar k m1 lar1) (hx : n.kids[k]? = some x) (hxi : x < (i : Int)) (h1 : MemoL l m2 lar2) (h2 : lar1 = true → lar2 = true) (h3 : larW l (x, b != decide (n.kind = 2)) = true → lar2 = true) (h4 : lar2 = true → lar1 = true ∨ larW l (x, b != decide (n.kind = 2)) = true) (h5 : ∀ p ∈ m2, p ∈ m1 ∨ p.1.1 ≤ x) : MidL l i n b m lar (k + 1) m2 lar2 := by
 have e : n.kids.take (k + 1) = n.kids.take k ++ [x] := take_succ hx
 refine ⟨h1, fun hb => h2 (h.up hb), fun y hy hb => ?_, fun hb => ?_, fun p hp => ?_⟩
 ·rw [e, List.mem_append, List.mem_singleton] at hy
  rcases hy with hy | rfl
  ·exact h2 (h.kids y hy hb)
  ·exact h3 hb
 ·rw [e, List.any_append]
  rcases h4 hb with hb | hb
  ·rcases h.why hb with hb | hb
   ·exact .inl hb
   ·exact .inr (by rw [hb, Bool.true_or])
  ·exact .inr (by simp [hb])
 ·rcases h5 p hp with hp | hp
  ·exact h.new p hp
  ·exact .inr (by omega)
theorem MidL.fin {l : List Nd} (hd : KidsDown l) {i : Nat} {n : Nd} (hn : l[i]? = some n) {b : Bool} {m m1 : List (WayT × AV)} {lar lar1 : Bool} {C : List (List Tm)} (h : MidL l i n b m lar n.kids.length m1 lar1) (hC : casW l ((i : Int), b) = C) :
  MemoL l m1 (lar1 || larC C) ∧ (lar = true → (lar1 || larC C) = true) ∧ (larW l ((i : Int), b) = true → (lar1 || larC C) = true) ∧ ((lar1 || larC C) = true → lar = true ∨ larW l ((i : Int), b) = true) := by
 have hk := h.kids
 have hy := h.why
 rw [List.take_length] at hk hy
 have el := larW_eq hd hn b
 rw [hC] at el
 refine ⟨h.memo.up fun e => by rw [e]; rfl, fun e => by rw [h.up e]; rfl, fun e => ?_, fun e => ?_⟩
 ·rw [el, Bool.or_eq_true] at e
  rcases e with e | e
  ·rw [e, Bool.or_true]
  ·obtain ⟨x, hx, hb⟩ := List.any_eq_true.1 e
   rw [hk x hx hb]; rfl
 ·rw [Bool.or_eq_true] at e
  rcases e with e | e
  ·rcases hy e with e | e
   ·exact .inl e
   ·exact .inr (by rw [el, e, Bool.or_true])
  ·exact .inr (by rw [el, e]; rfl)
open Go.Proofs
variable {Γ : Glob}
attribute [local irreducible] codeW opsW dopsW
@[reducible] noncomputable def p224z (Γ : Glob) : Par := par Γ [5, 6, 7, 8, 9, 12, 14] [(9, [false, true]), (11, [false, true]), (1000021, [true]), (2000020, [true, false, false, true]), (2000032, [true, false, false, true]), (36, [false, false, false, false, false, false, false, true])] [(1, [0, 1, 3, 7, 15, 0, 32, 127, 255, 511, 0, 2047]), (3, [0, 1, 3, 7, 0, 31]), (9, [0, 1, 0, 7, 15, 31, 63]), (11, [0, 1, 3, 0, 11, 27, 63, 127]), (13, [0, 1, 3, 7, 0, 31]), (18, [0, 1, 3, 7, 0, 31]), (20, [0, 0, 0, 6, 14, 31, 63]), (30, [0, 1, 3, 7, 0, 31]), (32, [0, 0, 0, 6, 15, 31, 63]), (36, [0, 0, 2, 6, 14, 30, 62, 126, 254, 510, 1023, 2047, 4095])]
theorem ok224z (Γ : Glob) : FnOk (p224z Γ) 224 134 (Tryz.f224.body.getD .skip) Tryz.f224.results.toList 2 := fnOk (par_mixed _ _ _ _) Tryz.func224 rfl rfl rfl (by kernel_rfl) (Nat.le_of_ble_eq_true rfl) (by kernel_rfl)
theorem us237 : Tryz.prog.underlying 237 = some (.map 229 73) := by kernel_rfl
theorem zero73 (w : World) (σ : Sig) : ∃ v, (zeroValue 73).run Tryz.prog w = .ok v w ∧ Rep w σ (.v (.slice none 0 0)) v := by
 obtain ⟨z, hz, hzz⟩ := run_zero_tk tk73 w
 refine ⟨z, hz, ?_⟩
 have h : z = .slice none 0 0 := by
  cases z <;> simp [Value.cells] at hzz <;> simp_all
 subst h
 exact .v _
theorem nd_term {l : List Nd} {k : Nat} {t : Nd} (h : l[k]? = some t) (z : List AV) : TK.part ⟨true, 2, z⟩ (l.flatMap ndC) (k * 4 + 1) = some (tmA t.term) := by
 have hlt := lt_of_getElem? h
 have hs := rows_split ndC_len h
 have hl : (l.flatMap ndC).length = l.length * 4 := rows_length ndC_len
 have e : (l.flatMap ndC).drop (k * 4 + 1) = [slI t.term.coeffs, int t.term.const, slI t.kids] ++ (l.drop (k + 1)).flatMap ndC := by
  rw [← List.drop_drop, hs]
  rfl
 rw [part_t, if_pos (by omega), e]
 rfl
def CasesAt (Γ : Glob) (f : Fm) (bc bm i : Nat) : Prop := ∀ (b : Bool) (m : List (WayT × AV)) (lar : Bool) (σ : Sig) (K : AV → Sig → Prop), badW f.nodes ((i : Int), b) = false → σ bc = some (cntRow f bm lar) → σ bm = some (.map (mapW m)) → MemoL f.nodes m lar →
 (∀ m' lar' σ', MemoL f.nodes m' lar' → (lar = true → lar' = true) → (larW f.nodes ((i : Int), b) = true → lar' = true) → (lar' = true → lar = true ∨ larW f.nodes ((i : Int), b) = true) → (∀ p ∈ m', p ∈ m ∨ p.1.1 ≤ (i : Int)) → σ' bc = some (cntRow f bm lar') → σ' bm = some (.map (mapW m')) →
  Frm bc bm σ σ' → K (slC (casW f.nodes ((i : Int), b))) σ') → ACalls Tryz.prog Γ 147 [.v (.pointer (some ⟨bc, 0, none⟩)), wayA i b] σ K
def MadeAt (Γ : Glob) (f : Fm) (bc bm i : Nat) : Prop := ∀ (b : Bool) (m : List (WayT × AV)) (lar : Bool) (σ : Sig) (K : AV → Sig → Prop), badW f.nodes ((i : Int), b) = false → σ bc = some (cntRow f bm lar) → σ bm = some (.map (mapW m)) → MemoL f.nodes m lar →
 (∀ m' lar' σ', MemoL f.nodes m' lar' → (lar = true → lar' = true) → (larW f.nodes ((i : Int), b) = true → lar' = true) → (lar' = true → lar = true ∨ larW f.nodes ((i : Int), b) = true) → (∀ p ∈ m', p ∈ m ∨ p.1.1 < (i : Int)) → σ' bc = some (cntRow f bm lar') → σ' bm = some (.map (mapW m')) →
  Frm bc bm σ σ' → K (slC (casW f.nodes ((i : Int), b))) σ') → ACalls Tryz.prog Γ 224 [.v (.pointer (some ⟨bc, 0, none⟩)), wayA i b] σ K
theorem f147 (f : Fm) (bc bm i : Nat) (hM : MadeAt Γ f bc bm i) : CasesAt Γ f bc bm i := by
 intro b m lar σ K hb hbc hbm hm hK
 have hbc' : σ bc = some (.row [int f.vars, slN f.nodes, .v (.map (some bm)), .v (.bool lar)] 4 1) := hbc
 refine acalls (ok147 Γ) ?_
 simp only [go_sem, xP, xR, xS, Tryz.f147, hbc']
 cases hg : getW m (i, b) with
 | some x =>
  obtain ⟨hx, hxb⟩ := hm _ (getW_mem hg)
  dsimp only at hx
  subst hx
  refine lookB_way (a := (i, b)) us237 way229 (fun w σ => zero73 w σ) (l := m) hbm ?_
  rw [hg]
  dsimp only
  simp only [go_sem, xP, xR, xS]
  exact hK m lar _ hm (fun h => h) hxb (fun h => .inl h) (fun p hp => .inl hp) hbc hbm Frm.refl
 | none =>
  refine lookB_way (a := (i, b)) us237 way229 (fun w σ => zero73 w σ) (l := m) hbm ?_
  rw [hg]
  dsimp only
  simp only [go_sem, xP, xR, xS]
  refine callB_a (hM b m lar _ _ hb hbc hbm hm ?_) rfl
  intro m' lar' σ' hm' u1 u2 u3 u4 qc qm hF
  have qc' : σ' bc = some (.row [int f.vars, slN f.nodes, .v (.map (some bm)), .v (.bool lar')] 4 1) := qc
  simp only [go_sem, xP, xR, xS, qc']
  refine mupB_way (a := (i, b)) us237 way229 (l := m') qm (getW_none hg u4) ?_
  simp only [go_sem, xP, xR, xS]
  have hcm : ¬ bc = bm := fun e => by rw [e, qm] at qc; cases qc
  refine hK _ lar' _ (hm'.add (fun h => h) u2) u1 u2 u3 (fun p hp => ?_) ?_ (upd_same _ _ _) (hF.own (.inr rfl) _)
  ·rcases List.mem_append.1 hp with hp | hp
   ·rcases u4 p hp with hp | hp
    ·exact .inl hp
    ·exact .inr (Int.le_of_lt hp)
   ·rw [List.mem_singleton] at hp
    subst hp
    exact .inr (Int.le_refl _)
  ·rw [upd_ne _ _ _ _ hcm]; exact qc
def FitC (C : List (List Tm)) : Prop := ∀ x ∈ C, ∀ t ∈ x, Fits t.coeffs.length
theorem less_len (t : Tm) (n : Int) : (lessT t n).coeffs.length = t.coeffs.length := by rw [lessT, plusT]; exact plusC_len _ _ _
theorem opp_len (t : Tm) (n : Int) : (oppT t n).coeffs.length = t.coeffs.length := by rw [oppT, plusT]; simp only [plusC_len, List.length_replicate]
theorem fit_prod {A B : List (List Tm)} (ha : FitC A) (hb : FitC B) : FitC (prodC A B) := fun x hx t ht => by
 obtain ⟨a, h1, h2⟩ := List.mem_flatMap.1 hx
 obtain ⟨c, h3, rfl⟩ := List.mem_map.1 h2
 rcases List.mem_append.1 ht with h | h
 ·exact ha a h1 t h
 ·exact hb c h3 t h
theorem fit_fold : ∀ (S : List (List (List Tm))) (A : List (List Tm)), (∀ C ∈ S, FitC C) → FitC A → FitC (S.foldl prodC A)
 | [], A, _, h => h
 | C :: S, A, h, hA => fit_fold S _ (fun D hD => h D (List.mem_cons_of_mem _ hD)) (fit_prod hA (h C (by simp)))
theorem fit_one {t : Tm} (h : Fits t.coeffs.length) : FitC [[t]] := fun x hx u hu => by
 rw [List.mem_singleton] at hx
 subst hx
 rw [List.mem_singleton] at hu
 subst hu
 exact h
theorem fit_mk {k : Int} {b : Bool} {t : Tm} {S : List (List (List Tm))} (ht : Fits t.coeffs.length) (hS : ∀ C ∈ S, FitC C) : FitC (mkC k b t S) := by
 unfold mkC
 split
 ·exact fit_one (by rw [less_len]; split <;> (try rw [opp_len]) <;> exact ht)
 split
 ·split
  ·intro x hx u hu
   simp only [List.mem_cons, List.not_mem_nil, or_false] at hx
   rcases hx with rfl | rfl
   ·exact fit_one (t := lessT t 1) (by rw [less_len]; exact ht) _ (by simp) u hu
   ·exact fit_one (t := oppT t (-1)) (by rw [opp_len]; exact ht) _ (by simp) u hu
  ·intro x hx u hu
   simp only [List.mem_cons, List.not_mem_nil, or_false] at hx
   subst hx
   simp only [List.mem_cons, List.not_mem_nil, or_false] at hu
   rcases hu with rfl | rfl
   ·rw [less_len]; exact ht
   ·rw [opp_len]; exact ht
 split
 ·rw [List.getLastD_eq_getLast?]
  cases h : S.getLast? with
  | none => intro x hx; cases hx
  | some C => exact hS C (List.mem_of_getLast? h)
 split
 ·split
  ·intro x hx; cases hx
  ·exact fit_fold S _ hS (fun x hx u hu => by
    rw [List.mem_singleton] at hx
    subst hx
    cases hu)
 split
 ·intro x hx
  obtain ⟨C, h1, h2⟩ := List.mem_flatten.1 hx
  exact hS C h1 x h2
 ·intro x hx; cases hx
theorem cas_fit {l : List Nd} (hd : KidsDown l) (hc : ∀ n ∈ l, NdFit n) : ∀ (N i : Nat) (b : Bool) (n : Nd), i < N → l[i]? = some n → FitC (casW l ((i : Int), b))
 | 0, _, _, _, h, _ => by omega
 | N + 1, i, b, n, hi, hn => by
  rw [casW_eq hd hn]
  refine fit_mk (hc n (mem_of_get hn)).1 fun C hC => ?_
  obtain ⟨x, hx, rfl⟩ := List.mem_map.1 hC
  have hxr := hd i n hn x hx
  obtain ⟨j, rfl⟩ := Int.eq_ofNat_of_zero_le hxr.1
  obtain ⟨nc, hnc⟩ : ∃ nc, l[j]? = some nc := ⟨l[j]'(by have := lt_of_getElem? hn; omega), List.getElem?_eq_getElem _⟩
  exact cas_fit hd hc N j _ nc (by omega) hnc
theorem callB_gen {P : Program} {Γ : Glob} {fv : AV} {args : List AV} {σ : Sig} {K : AV → Sig → Prop} (Q : Sig → Prop) (h : Q σ) (k : ∀ τ, Q τ → callB P Γ fv args τ K) : callB P Γ fv args σ K := k σ h
theorem any_take {l : List Tm} {k : Nat} {x : Tm} (h : l[k]? = some x) : (l.take (k + 1)).any larT = ((l.take k).any larT || larT x) := by rw [take_succ h, List.any_append]; simp
theorem xcallB_a {P : Program} {Γ : Glob} {f : FuncId} {a c args args' : List AV} {σ : Sig} {K : AV → Sig → Prop} (h : ACalls P Γ f args' σ fun r σ' => Keep1 σ σ' ∧ K r σ') (he : args' = a ++ args ++ c) : xcallB P Γ (.fn (.func f) a c) args σ K := callB_a h he
theorem Frm.keep1 {bc bm : Nat} {σ σ' : Sig} {cs : List AV} {c : Nat} {es : List (AV × AV)} (hbc : σ bc = some (.row cs 4 c)) (hbm : σ bm = some (.map es)) (h : Frm bc bm σ σ') : Keep1 σ σ' := fun b cs' c' hb =>
 h b _ (fun e => by rw [e, hbc] at hb; cases hb) (fun e => by rw [e, hbm] at hb; cases hb) hb
theorem Grow.keep1 {σ0 σ σ' : Sig} {a : AV} {cs : List AV} {n : Nat} (h : Grow σ0 σ 1 a cs n) (hk : Keep1 σ σ') : Grow σ0 σ' 1 a cs n := by
 rcases h with h | ⟨b, c, h0, h1, h2, h3⟩
 ·exact .inl h
 ·exact .inr ⟨b, c, h0, h1, hk _ _ _ h2, h3⟩
def bas (bc bm : Nat) (σ : Sig) : Sig := fun x => if x = bc ∨ x = bm then none else σ x
theorem Frm.drop {bc bm : Nat} {σ σ' : Sig} (h : Frm bc bm σ σ') : Drop σ' (bas bc bm σ) := fun x => by
 unfold bas
 split
 ·exact .inl rfl
 ·rename_i hh
  cases hx : σ x with
  | none => exact .inl rfl
  | some y => exact .inr (h x y (fun e => hh (.inl e)) (fun e => hh (.inr e)) hx).symm
theorem Frm.of_drop {bc bm : Nat} {σ σ' : Sig} (h : Drop σ' (bas bc bm σ)) : Frm bc bm σ σ' := fun x y h1 h2 h3 => by
 have hb : bas bc bm σ x = some y := by rw [bas, if_neg (by rintro (e | e) <;> contradiction)]; exact h3
 rcases h x with hx | hx
 ·rw [hb] at hx; cases hx
 ·rw [hb] at hx; exact hx.symm
theorem Grow.neM {σ0 σ : Sig} {s n b : Nat} {a : AV} {cs : List AV} {es : List (AV × AV)} (h : Grow σ0 σ s a cs n) (hb : σ b = some (.map es)) : ∀ s1 o m, a ≠ .own b s1 o m := fun s1 o m e => by
 rcases h with ⟨h, _⟩ | ⟨b', c, h0, h1, h2, h3⟩
 ·rcases h with h | h <;> rw [h] at e <;> cases e
 ·rw [h0] at e
  cases e
  rw [hb] at h2
  cases h2
theorem Grow.neB {σ0 σ : Sig} {s n b : Nat} {a : AV} {cs : List AV} (h : Grow σ0 σ s a cs n) (hb : σ0 b ≠ none) : ∀ s1 o m, a ≠ .own b s1 o m := fun s1 o m e => by
 rcases h with ⟨h, _⟩ | ⟨b', c, h0, h1, h2, h3⟩
 ·rcases h with h | h <;> rw [h] at e <;> cases e
 ·rw [h0] at e
  cases e
  exact hb h1
theorem frzB_grow2 {x : Bool} {l : List Bool} {ρ : Env} {σ σ0 : Sig} {K : Env → Sig → Prop} {s n : Nat} {a : AV} {cs : List AV} (t b : Nat) (hρ : ρ t = .v (.pointer (some ⟨b, 0, none⟩))) (hb : σ b = some (.row [a] 1 1)) (hG : Grow σ0 σ s a cs n) (hne : ∀ s o m, a ≠ .own b s o m)
  (hk : ∀ σ', Drop σ σ' → (∀ y, y ≠ b → (∀ s o m, a ≠ .own y s o m) → σ' y = σ y) → K (upd ρ t (.pp [.sl cs n] 0)) σ') : frzB (x :: l) ρ σ K := by
 rcases hG with ⟨h, rfl, rfl⟩ | ⟨b', c, rfl, h1, h2, h3⟩
 ·refine ⟨_, ers σ b, Drop.ers σ b, fun i => ?_, hk _ (Drop.ers σ b) fun y hy _ => ers_ne _ _ _ hy⟩
  by_cases hi : i = t
  ·subst hi
   rw [hρ, upd_same]
   refine .ptr hb (ers_same _ _) (.cons ?_ .nil)
   rcases h with rfl | rfl
   ·exact .nil
   ·exact .e0
  ·rw [upd_ne _ _ _ _ hi]; exact .refl _
 ·have hbb : b' ≠ b := fun e => hne s 0 n (by rw [e])
  have hD : Drop σ (ers (ers σ b) b') := Drop.trans (Drop.ers σ b) (Drop.ers _ b')
  refine ⟨_, ers (ers σ b) b', hD, fun i => ?_, hk _ hD fun y hy hy2 => ?_⟩
  ·by_cases hi : i = t
   ·subst hi
    rw [hρ, upd_same]
    refine .ptr hb (by rw [ers_ne _ _ _ (Ne.symm hbb)]; exact ers_same _ _) (.cons (.own h2 (ers_same _ _) ?_) .nil)
    have : (cs.drop (0 * s)).take (n * s) = cs := by simp [← h3]
    rw [this]
    exact .refl cs
   ·rw [upd_ne _ _ _ _ hi]; exact .refl _
  ·rw [ers_ne _ _ _ (fun e => hy2 s 0 n (by rw [e])), ers_ne _ _ _ hy]
theorem slC_ne {l : List (List (List Tm))} : l.map slC ≠ [.v (.slice none 0 0)] := fun e => by
 cases l with
 | nil => cases e
 | cons x l => rw [List.map_cons, slC] at e; injection e with e _; cases e
theorem slC_neG {σ0 σ : Sig} {s n : Nat} {a : AV} {cs : List AV} (h : Grow σ0 σ s a cs n) {l : List (List (List Tm))} : l.map slC ≠ [a] := fun e => by
 cases l with
 | nil => cases e
 | cons x l =>
  rw [List.map_cons, slC] at e
  injection e with e _
  rcases h with ⟨h, _⟩ | ⟨b', c, h0, h1, h2, h3⟩
  ·rcases h with h | h <;> rw [h] at e <;> cases e
  ·rw [h0] at e; cases e
theorem subW_get {l : List Nd} {n : Nd} {b : Bool} {k : Nat} {x : Int} (h : n.kids[k]? = some x) : (subW l n b)[k]? = some (casW l (x, b != decide (n.kind = 2))) := by simp [subW, h]
theorem subW_len {l : List Nd} {n : Nd} {b : Bool} : (subW l n b).length = n.kids.length := by simp [subW]
set_option maxHeartbeats 4000000 in
set_option maxRecDepth 20000 in
theorem f224 (f : Fm) (hl : Fits f.nodes.length) (hc : ∀ n ∈ f.nodes, NdFit n) (hok : ∀ k n, f.nodes[k]? = some n → NodeOk n k f.vars) (bc bm i : Nat) (n : Nd) (hn : f.nodes[i]? = some n) (ih : ∀ j, j < i → CasesAt Γ f bc bm j) : MadeAt Γ f bc bm i := by
 intro b m lar σ K hbad hbc hbm hm hK
 have hd := hdown hok
 have hok1 := hok i n hn
 have hcn := hc n (mem_of_get hn)
 have hkf := hcn.2
 have hlt := lt_of_getElem? hn
 have kbc : ¬ bm = bc := fun e => by rw [e, hbc] at hbm; cases hbm
 have kbc' : ¬ bc = bm := fun e => kbc e.symm
 have hbc' : σ bc = some (.row [int f.vars, slN f.nodes, .v (.map (some bm)), .v (.bool lar)] 4 1) := hbc
 obtain ⟨cl1, cl2, _⟩ := (cnt_cas hd hok (i + 1) i b n (by omega) hn).2 hbad
 have hCe := casW_eq hd hn b
 refine ACalls.retK (acalls (ok224z Γ) ?_)
 simp only [go_sem, xP, xR, xS, Tryz.f224, hbc', hlt, ↓nd_term hn]
 intro b5 hb5
 have m5 : ¬ bc = b5 := nn hb5 hbc
 have m5' : ¬ b5 = bc := fun e => m5 e.symm
 have k5 : ¬ bm = b5 := nn hb5 hbm
 have k5' : ¬ b5 = bm := fun e => k5 e.symm
 simp only [go_sem, xP, xR, xS, hbc', hlt, ↓nd_term hn, m5, m5', k5, k5']
 intro b6 hb6
 obtain ⟨n65, hb6⟩ := un hb6
 have n65' : ¬ b5 = b6 := fun e => n65 e.symm
 have m6 : ¬ bc = b6 := nn hb6 hbc
 have m6' : ¬ b6 = bc := fun e => m6 e.symm
 have k6 : ¬ bm = b6 := nn hb6 hbm
 have k6' : ¬ b6 = bm := fun e => k6 e.symm
 simp only [go_sem, xP, xR, xS, hbc', m5, m5', k5, k5', n65, n65', m6, m6', k6, k6']
 refine callB_use (f222 f i b n hn) rfl ?_
 simp only [go_sem, xP, xR, xS, hbc', m5, m5', k5, k5', n65, n65', m6, m6', k6, k6']
 rcases kindW_cases hok1 b with hk | hk | hk | hk | hk
 ·have hkids : n.kids = [] := (hok1.term (by unfold kindW at hk; split at hk <;> omega)).2.2
  have hMM : MidL f.nodes i n b m lar n.kids.length m lar := by rw [hkids]; exact MidL.zero hm
  cases b with
  | true =>
   simp only [go_sem, xP, xR, xS, hbc', m5, m5', k5, k5', n65, n65', m6, m6', k6, k6', hk]
   refine callB_use (f169 n.term (-1) hcn.1) rfl ?_
   simp only [go_sem, xP, xR, xS, hbc', m5, m5', k5, k5', n65, n65', m6, m6', k6, k6', hk]
   refine callB_use (f253 (oppT n.term (-1)) 0 (by rw [opp_len]; exact hcn.1)) rfl ?_
   simp only [go_sem, xP, xR, xS, hbc', m5, m5', k5, k5', n65, n65', m6, m6', k6, k6', hk]
   obtain ⟨C, hCC, hC0⟩ : ∃ C, casW f.nodes ((i : Int), true) = C ∧ C = [[lessT (oppT n.term (-1)) 0]] := ⟨_, rfl, by rw [hCe, hk]; rfl⟩
   rw [hCC] at cl1 cl2
   have hz : ∀ σ σ' : Sig, Fz σ σ' (slC [[lessT (oppT n.term (-1)) 0]]) (slC C) := fun σ σ' => by rw [hC0]; exact .refl _
   refine callB_gen (fun τ => τ bc = some (cntRow f bm lar) ∧ τ bm = some (.map (mapW m)) ∧ τ b6 = some (.row [slC [[lessT (oppT n.term (-1)) 0]]] 1 1) ∧ Frm bc bm σ τ) ⟨?_, ?_, ?_, ?_⟩ (fun τ ⟨qc, qm, q6, hF⟩ => ?_)
   ·simp only [upd, m5, m6, if_false]; exact hbc
   ·simp only [upd, k5, k6, if_false]; exact hbm
   ·simp only [upd, if_true]; rfl
   ·repeat (first | exact Frm.refl | refine Frm.new ?_ hb5 _ | refine Frm.new ?_ hb6 _)
   have hfl : C.flatten.length ≤ 64 * 32 := Nat.le_trans (flat_max C) (Nat.mul_le_mul cl1 cl2)
   refine callB_fz (f258 C (by omega) (by omega)) (.cons (hz _ _) .nil) ?_
   simp only [go_sem, xP, xR, xS]
   refine SemC.loopK mixed C.flatten.length (fun k ρ σ2 ds => (ds = [] ∧ ρ 2 = .pp [.v (.pointer (some ⟨bc, 0, none⟩))] 0 ∧ ρ 6 = .v (.pointer (some ⟨b6, 0, none⟩)) ∧ ρ 114 = slT C.flatten ∧ ρ 115 = int C.flatten.length ∧ ρ 116 = int k) ∧ σ2 bc = some (cntRow f bm (lar || (C.flatten.take k).any larT)) ∧ σ2 bm = some (.map (mapW m)) ∧ σ2 b6 = some (.row [slC [[lessT (oppT n.term (-1)) 0]]] 1 1) ∧  Frm bc bm σ σ2) (by kernel_rfl) ⟨⟨rfl, by simp only [go_sem, xP, xR, xS], by simp only [go_sem, xP, xR, xS], rfl, rfl, rfl⟩, by simpa using qc, qm, q6,  hF⟩ ?_
   rintro k ρ σ2 ds hk ⟨⟨rfl, h2, h6, h114, h115, h116⟩, pc, pm, p6,  pF⟩
   rcases get_or_end C.flatten k hk with ⟨x, hx, hlt2, hd2⟩ | hk2
   ·have hxf : Fits x.coeffs.length := by
     obtain ⟨y, h1, h2⟩ := List.mem_flatten.1 (mem_of_get hx)
     have := cas_fit hd hc (i + 1) i true n (by omega) hn
     rw [hCC] at this
     exact this y h1 x h2
    rw [any_take hx]
    generalize hzz : (lar || (C.flatten.take k).any larT) = z at pc
    have pc' : σ2 bc = some (.row [int f.vars, slN f.nodes, .v (.map (some bm)), .v (.bool z)] 4 1) := pc
    simp only [go_sem, xP, xR, xS, h2, h6, h114, h115, h116, hlt2, ↓tm_part hx]
    intro b14 hb14
    have y6 : ¬ b6 = b14 := nn hb14 p6
    have yc : ¬ bc = b14 := nn hb14 pc
    have ym : ¬ bm = b14 := nn hb14 pm
    have yc' : ¬ b14 = bc := fun e => yc e.symm
    skip
    cases z with
    | true =>
     simp only [go_sem, xP, xR, xS, h2, h6, h114, h115, h116, hlt2, ↓tm_part hx, pc', y6, yc, yc', ym]
     refine ⟨by rw [wrap_succ _ (by omega)], by rw [← Bool.or_assoc, hzz]; rfl, ?_⟩
     simp only [go_sem, xP, xR, xS, ym, y6, pm, p6, m6', kbc, pm]
     exact (pF.fresh hb14 _).own (.inl rfl) _
    | false =>
     simp only [go_sem, xP, xR, xS, h2, h6, h114, h115, h116, hlt2, ↓tm_part hx, pc', y6, yc, yc', ym]
     refine dcallB_use (f159 x hxf) rfl ?_
     simp only [go_sem, xP, xR, xS, h2, h6, h114, h115, h116, hlt2, ↓tm_part hx, pc', y6, yc, yc', ym]
     refine ⟨by rw [wrap_succ _ (by omega)], by rw [← Bool.or_assoc, hzz, larT, Bool.false_or, decide_not]; rfl, ?_⟩
     simp only [go_sem, xP, xR, xS, ym, y6, pm, p6, m6', kbc, pm]
     exact (pF.fresh hb14 _).own (.inl rfl) _
   ·subst hk2
    rw [List.take_length] at pc
    simp only [go_sem, xP, xR, xS, h2, h6, h114, h115, h116, Nat.lt_irrefl, p6, p6]
    obtain ⟨w1, w2, w3, w4⟩ := hMM.fin hd hn hCC
    exact ⟨slC C, _, hz _ _, Drop.refl _, hCC ▸ hK m (lar || larC C) _ w1 w2 w3 w4 hMM.new pc pm pF⟩
  | false =>
   simp only [go_sem, xP, xR, xS, hbc', m5, m5', k5, k5', n65, n65', m6, m6', k6, k6', hk]
   refine callB_use (f253 n.term 0 hcn.1) rfl ?_
   simp only [go_sem, xP, xR, xS, hbc', m5, m5', k5, k5', n65, n65', m6, m6', k6, k6', hk]
   obtain ⟨C, hCC, hC0⟩ : ∃ C, casW f.nodes ((i : Int), false) = C ∧ C = [[lessT n.term 0]] := ⟨_, rfl, by rw [hCe, hk]; rfl⟩
   rw [hCC] at cl1 cl2
   have hz : ∀ σ σ' : Sig, Fz σ σ' (slC [[lessT n.term 0]]) (slC C) := fun σ σ' => by rw [hC0]; exact .refl _
   refine callB_gen (fun τ => τ bc = some (cntRow f bm lar) ∧ τ bm = some (.map (mapW m)) ∧ τ b6 = some (.row [slC [[lessT n.term 0]]] 1 1) ∧ Frm bc bm σ τ) ⟨?_, ?_, ?_, ?_⟩ (fun τ ⟨qc, qm, q6, hF⟩ => ?_)
   ·simp only [upd, m5, m6, if_false]; exact hbc
   ·simp only [upd, k5, k6, if_false]; exact hbm
   ·simp only [upd, if_true]; rfl
   ·repeat (first | exact Frm.refl | refine Frm.new ?_ hb5 _ | refine Frm.new ?_ hb6 _)
   have hfl : C.flatten.length ≤ 64 * 32 := Nat.le_trans (flat_max C) (Nat.mul_le_mul cl1 cl2)
   refine callB_fz (f258 C (by omega) (by omega)) (.cons (hz _ _) .nil) ?_
   simp only [go_sem, xP, xR, xS]
   refine SemC.loopK mixed C.flatten.length (fun k ρ σ2 ds => (ds = [] ∧ ρ 2 = .pp [.v (.pointer (some ⟨bc, 0, none⟩))] 0 ∧ ρ 6 = .v (.pointer (some ⟨b6, 0, none⟩)) ∧ ρ 114 = slT C.flatten ∧ ρ 115 = int C.flatten.length ∧ ρ 116 = int k) ∧ σ2 bc = some (cntRow f bm (lar || (C.flatten.take k).any larT)) ∧ σ2 bm = some (.map (mapW m)) ∧ σ2 b6 = some (.row [slC [[lessT n.term 0]]] 1 1) ∧  Frm bc bm σ σ2) (by kernel_rfl) ⟨⟨rfl, by simp only [go_sem, xP, xR, xS], by simp only [go_sem, xP, xR, xS], rfl, rfl, rfl⟩, by simpa using qc, qm, q6,  hF⟩ ?_
   rintro k ρ σ2 ds hk ⟨⟨rfl, h2, h6, h114, h115, h116⟩, pc, pm, p6,  pF⟩
   rcases get_or_end C.flatten k hk with ⟨x, hx, hlt2, hd2⟩ | hk2
   ·have hxf : Fits x.coeffs.length := by
     obtain ⟨y, h1, h2⟩ := List.mem_flatten.1 (mem_of_get hx)
     have := cas_fit hd hc (i + 1) i false n (by omega) hn
     rw [hCC] at this
     exact this y h1 x h2
    rw [any_take hx]
    generalize hzz : (lar || (C.flatten.take k).any larT) = z at pc
    have pc' : σ2 bc = some (.row [int f.vars, slN f.nodes, .v (.map (some bm)), .v (.bool z)] 4 1) := pc
    simp only [go_sem, xP, xR, xS, h2, h6, h114, h115, h116, hlt2, ↓tm_part hx]
    intro b14 hb14
    have y6 : ¬ b6 = b14 := nn hb14 p6
    have yc : ¬ bc = b14 := nn hb14 pc
    have ym : ¬ bm = b14 := nn hb14 pm
    have yc' : ¬ b14 = bc := fun e => yc e.symm
    skip
    cases z with
    | true =>
     simp only [go_sem, xP, xR, xS, h2, h6, h114, h115, h116, hlt2, ↓tm_part hx, pc', y6, yc, yc', ym]
     refine ⟨by rw [wrap_succ _ (by omega)], by rw [← Bool.or_assoc, hzz]; rfl, ?_⟩
     simp only [go_sem, xP, xR, xS, ym, y6, pm, p6, m6', kbc, pm]
     exact (pF.fresh hb14 _).own (.inl rfl) _
    | false =>
     simp only [go_sem, xP, xR, xS, h2, h6, h114, h115, h116, hlt2, ↓tm_part hx, pc', y6, yc, yc', ym]
     refine dcallB_use (f159 x hxf) rfl ?_
     simp only [go_sem, xP, xR, xS, h2, h6, h114, h115, h116, hlt2, ↓tm_part hx, pc', y6, yc, yc', ym]
     refine ⟨by rw [wrap_succ _ (by omega)], by rw [← Bool.or_assoc, hzz, larT, Bool.false_or, decide_not]; rfl, ?_⟩
     simp only [go_sem, xP, xR, xS, ym, y6, pm, p6, m6', kbc, pm]
     exact (pF.fresh hb14 _).own (.inl rfl) _
   ·subst hk2
    rw [List.take_length] at pc
    simp only [go_sem, xP, xR, xS, h2, h6, h114, h115, h116, Nat.lt_irrefl, p6, p6]
    obtain ⟨w1, w2, w3, w4⟩ := hMM.fin hd hn hCC
    exact ⟨slC C, _, hz _ _, Drop.refl _, hCC ▸ hK m (lar || larC C) _ w1 w2 w3 w4 hMM.new pc pm pF⟩
 ·have hkids : n.kids = [] := (hok1.term (by unfold kindW at hk; split at hk <;> omega)).2.2
  have hMM : MidL f.nodes i n b m lar n.kids.length m lar := by rw [hkids]; exact MidL.zero hm
  have e10 : ((1 : Int) = 0) = False := eq_false (by decide)
  cases b with
  | true =>
   simp only [go_sem, xP, xR, xS, hbc', m5, m5', k5, k5', n65, n65', m6, m6', k6, k6', hk, e10]
   refine dcallB_use (f253 n.term 0 hcn.1) rfl ?_
   simp only [go_sem, xP, xR, xS, hbc', m5, m5', k5, k5', n65, n65', m6, m6', k6, k6', hk]
   refine callB_use (f169 n.term 0 hcn.1) rfl ?_
   simp only [go_sem, xP, xR, xS, hbc', m5, m5', k5, k5', n65, n65', m6, m6', k6, k6', hk]
   refine dcallB_use (f253 n.term 1 hcn.1) rfl ?_
   simp only [go_sem, xP, xR, xS, hbc', m5, m5', k5, k5', n65, n65', m6, m6', k6, k6', hk]
   refine callB_use (f169 n.term (-1) hcn.1) rfl ?_
   simp only [go_sem, xP, xR, xS, hbc', m5, m5', k5, k5', n65, n65', m6, m6', k6, k6', hk]
   obtain ⟨C, hCC, hC0⟩ : ∃ C, casW f.nodes ((i : Int), true) = C ∧ C = [[lessT n.term 1], [oppT n.term (-1)]] := ⟨_, rfl, by rw [hCe, hk]; rfl⟩
   rw [hCC] at cl1 cl2
   have hz : ∀ σ σ' : Sig, Fz σ σ' (slC [[lessT n.term 1], [oppT n.term (-1)]]) (slC C) := fun σ σ' => by rw [hC0]; exact .refl _
   refine callB_gen (fun τ => τ bc = some (cntRow f bm lar) ∧ τ bm = some (.map (mapW m)) ∧ τ b6 = some (.row [slC [[lessT n.term 1], [oppT n.term (-1)]]] 1 1) ∧ Frm bc bm σ τ) ⟨?_, ?_, ?_, ?_⟩ (fun τ ⟨qc, qm, q6, hF⟩ => ?_)
   ·simp only [upd, m5, m6, if_false]; exact hbc
   ·simp only [upd, k5, k6, if_false]; exact hbm
   ·simp only [upd, if_true]; rfl
   ·repeat (first | exact Frm.refl | refine Frm.new ?_ hb5 _ | refine Frm.new ?_ hb6 _)
   have hfl : C.flatten.length ≤ 64 * 32 := Nat.le_trans (flat_max C) (Nat.mul_le_mul cl1 cl2)
   refine callB_fz (f258 C (by omega) (by omega)) (.cons (hz _ _) .nil) ?_
   simp only [go_sem, xP, xR, xS]
   refine SemC.loopK mixed C.flatten.length (fun k ρ σ2 ds => (ds = [] ∧ ρ 2 = .pp [.v (.pointer (some ⟨bc, 0, none⟩))] 0 ∧ ρ 6 = .v (.pointer (some ⟨b6, 0, none⟩)) ∧ ρ 114 = slT C.flatten ∧ ρ 115 = int C.flatten.length ∧ ρ 116 = int k) ∧ σ2 bc = some (cntRow f bm (lar || (C.flatten.take k).any larT)) ∧ σ2 bm = some (.map (mapW m)) ∧ σ2 b6 = some (.row [slC [[lessT n.term 1], [oppT n.term (-1)]]] 1 1) ∧  Frm bc bm σ σ2) (by kernel_rfl) ⟨⟨rfl, by simp only [go_sem, xP, xR, xS], by simp only [go_sem, xP, xR, xS], rfl, rfl, rfl⟩, by simpa using qc, qm, q6,  hF⟩ ?_
   rintro k ρ σ2 ds hk ⟨⟨rfl, h2, h6, h114, h115, h116⟩, pc, pm, p6,  pF⟩
   rcases get_or_end C.flatten k hk with ⟨x, hx, hlt2, hd2⟩ | hk2
   ·have hxf : Fits x.coeffs.length := by
     obtain ⟨y, h1, h2⟩ := List.mem_flatten.1 (mem_of_get hx)
     have := cas_fit hd hc (i + 1) i true n (by omega) hn
     rw [hCC] at this
     exact this y h1 x h2
    rw [any_take hx]
    generalize hzz : (lar || (C.flatten.take k).any larT) = z at pc
    have pc' : σ2 bc = some (.row [int f.vars, slN f.nodes, .v (.map (some bm)), .v (.bool z)] 4 1) := pc
    simp only [go_sem, xP, xR, xS, h2, h6, h114, h115, h116, hlt2, ↓tm_part hx]
    intro b14 hb14
    have y6 : ¬ b6 = b14 := nn hb14 p6
    have yc : ¬ bc = b14 := nn hb14 pc
    have ym : ¬ bm = b14 := nn hb14 pm
    have yc' : ¬ b14 = bc := fun e => yc e.symm
    skip
    cases z with
    | true =>
     simp only [go_sem, xP, xR, xS, h2, h6, h114, h115, h116, hlt2, ↓tm_part hx, pc', y6, yc, yc', ym]
     refine ⟨by rw [wrap_succ _ (by omega)], by rw [← Bool.or_assoc, hzz]; rfl, ?_⟩
     simp only [go_sem, xP, xR, xS, ym, y6, pm, p6, m6', kbc, pm]
     exact (pF.fresh hb14 _).own (.inl rfl) _
    | false =>
     simp only [go_sem, xP, xR, xS, h2, h6, h114, h115, h116, hlt2, ↓tm_part hx, pc', y6, yc, yc', ym]
     refine dcallB_use (f159 x hxf) rfl ?_
     simp only [go_sem, xP, xR, xS, h2, h6, h114, h115, h116, hlt2, ↓tm_part hx, pc', y6, yc, yc', ym]
     refine ⟨by rw [wrap_succ _ (by omega)], by rw [← Bool.or_assoc, hzz, larT, Bool.false_or, decide_not]; rfl, ?_⟩
     simp only [go_sem, xP, xR, xS, ym, y6, pm, p6, m6', kbc, pm]
     exact (pF.fresh hb14 _).own (.inl rfl) _
   ·subst hk2
    rw [List.take_length] at pc
    simp only [go_sem, xP, xR, xS, h2, h6, h114, h115, h116, Nat.lt_irrefl, p6, p6]
    obtain ⟨w1, w2, w3, w4⟩ := hMM.fin hd hn hCC
    exact ⟨slC C, _, hz _ _, Drop.refl _, hCC ▸ hK m (lar || larC C) _ w1 w2 w3 w4 hMM.new pc pm pF⟩
  | false =>
   simp only [go_sem, xP, xR, xS, hbc', m5, m5', k5, k5', n65, n65', m6, m6', k6, k6', hk, e10]
   refine dcallB_use (f253 n.term 0 hcn.1) rfl ?_
   simp only [go_sem, xP, xR, xS, hbc', m5, m5', k5, k5', n65, n65', m6, m6', k6, k6', hk]
   refine callB_use (f169 n.term 0 hcn.1) rfl ?_
   simp only [go_sem, xP, xR, xS, hbc', m5, m5', k5, k5', n65, n65', m6, m6', k6, k6', hk]
   obtain ⟨C, hCC, hC0⟩ : ∃ C, casW f.nodes ((i : Int), false) = C ∧ C = [[lessT n.term 0, oppT n.term 0]] := ⟨_, rfl, by rw [hCe, hk]; rfl⟩
   rw [hCC] at cl1 cl2
   have hz : ∀ σ σ' : Sig, Fz σ σ' (slC [[lessT n.term 0, oppT n.term 0]]) (slC C) := fun σ σ' => by rw [hC0]; exact .refl _
   refine callB_gen (fun τ => τ bc = some (cntRow f bm lar) ∧ τ bm = some (.map (mapW m)) ∧ τ b6 = some (.row [slC [[lessT n.term 0, oppT n.term 0]]] 1 1) ∧ Frm bc bm σ τ) ⟨?_, ?_, ?_, ?_⟩ (fun τ ⟨qc, qm, q6, hF⟩ => ?_)
   ·simp only [upd, m5, m6, if_false]; exact hbc
   ·simp only [upd, k5, k6, if_false]; exact hbm
   ·simp only [upd, if_true]; rfl
   ·repeat (first | exact Frm.refl | refine Frm.new ?_ hb5 _ | refine Frm.new ?_ hb6 _)
   have hfl : C.flatten.length ≤ 64 * 32 := Nat.le_trans (flat_max C) (Nat.mul_le_mul cl1 cl2)
   refine callB_fz (f258 C (by omega) (by omega)) (.cons (hz _ _) .nil) ?_
   simp only [go_sem, xP, xR, xS]
   refine SemC.loopK mixed C.flatten.length (fun k ρ σ2 ds => (ds = [] ∧ ρ 2 = .pp [.v (.pointer (some ⟨bc, 0, none⟩))] 0 ∧ ρ 6 = .v (.pointer (some ⟨b6, 0, none⟩)) ∧ ρ 114 = slT C.flatten ∧ ρ 115 = int C.flatten.length ∧ ρ 116 = int k) ∧ σ2 bc = some (cntRow f bm (lar || (C.flatten.take k).any larT)) ∧ σ2 bm = some (.map (mapW m)) ∧ σ2 b6 = some (.row [slC [[lessT n.term 0, oppT n.term 0]]] 1 1) ∧  Frm bc bm σ σ2) (by kernel_rfl) ⟨⟨rfl, by simp only [go_sem, xP, xR, xS], by simp only [go_sem, xP, xR, xS], rfl, rfl, rfl⟩, by simpa using qc, qm, q6,  hF⟩ ?_
   rintro k ρ σ2 ds hk ⟨⟨rfl, h2, h6, h114, h115, h116⟩, pc, pm, p6,  pF⟩
   rcases get_or_end C.flatten k hk with ⟨x, hx, hlt2, hd2⟩ | hk2
   ·have hxf : Fits x.coeffs.length := by
     obtain ⟨y, h1, h2⟩ := List.mem_flatten.1 (mem_of_get hx)
     have := cas_fit hd hc (i + 1) i false n (by omega) hn
     rw [hCC] at this
     exact this y h1 x h2
    rw [any_take hx]
    generalize hzz : (lar || (C.flatten.take k).any larT) = z at pc
    have pc' : σ2 bc = some (.row [int f.vars, slN f.nodes, .v (.map (some bm)), .v (.bool z)] 4 1) := pc
    simp only [go_sem, xP, xR, xS, h2, h6, h114, h115, h116, hlt2, ↓tm_part hx]
    intro b14 hb14
    have y6 : ¬ b6 = b14 := nn hb14 p6
    have yc : ¬ bc = b14 := nn hb14 pc
    have ym : ¬ bm = b14 := nn hb14 pm
    have yc' : ¬ b14 = bc := fun e => yc e.symm
    skip
    cases z with
    | true =>
     simp only [go_sem, xP, xR, xS, h2, h6, h114, h115, h116, hlt2, ↓tm_part hx, pc', y6, yc, yc', ym]
     refine ⟨by rw [wrap_succ _ (by omega)], by rw [← Bool.or_assoc, hzz]; rfl, ?_⟩
     simp only [go_sem, xP, xR, xS, ym, y6, pm, p6, m6', kbc, pm]
     exact (pF.fresh hb14 _).own (.inl rfl) _
    | false =>
     simp only [go_sem, xP, xR, xS, h2, h6, h114, h115, h116, hlt2, ↓tm_part hx, pc', y6, yc, yc', ym]
     refine dcallB_use (f159 x hxf) rfl ?_
     simp only [go_sem, xP, xR, xS, h2, h6, h114, h115, h116, hlt2, ↓tm_part hx, pc', y6, yc, yc', ym]
     refine ⟨by rw [wrap_succ _ (by omega)], by rw [← Bool.or_assoc, hzz, larT, Bool.false_or, decide_not]; rfl, ?_⟩
     simp only [go_sem, xP, xR, xS, ym, y6, pm, p6, m6', kbc, pm]
     exact (pF.fresh hb14 _).own (.inl rfl) _
   ·subst hk2
    rw [List.take_length] at pc
    simp only [go_sem, xP, xR, xS, h2, h6, h114, h115, h116, Nat.lt_irrefl, p6, p6]
    obtain ⟨w1, w2, w3, w4⟩ := hMM.fin hd hn hCC
    exact ⟨slC C, _, hz _ _, Drop.refl _, hCC ▸ hK m (lar || larC C) _ w1 w2 w3 w4 hMM.new pc pm pF⟩
 ·have hk2 : n.kind = 2 := by unfold kindW at hk; split at hk <;> omega
  have e20 : ((2 : Int) = 0) = False := eq_false (by decide)
  have e21 : ((2 : Int) = 1) = False := eq_false (by decide)
  simp only [go_sem, xP, xR, xS, hbc', m5, m5', k5, k5', n65, n65', m6, m6', k6, k6', hk, e20, e21]
  refine callB_use (f223 f i b) rfl ?_
  simp only [go_sem, xP, xR, xS, hbc', m5, m5', k5, k5', n65, n65', m6, m6', k6, k6', hk]
  refine SemC.rangeE (xs := waysX n b) (D := ownD n) (E := noD) (pre := fun _ => True) (f := 252) (first := []) (captured := [.pp (fmC f) 0, .pp [int i, .v (.bool b)] 0]) mixed (by simp only [go_sem, xP, xR, xS]) (f252 f i b n hn hkf) (by decide) (by kernel_rfl) (by kernel_rfl) own_ctl noD_ctl (fun _ _ _ _ _ _ => trivial)
   (fun k σ' => ∃ (m1 : List (WayT × AV)) (lar1 : Bool) (o : AV), (MidL f.nodes i n b m lar k m1 lar1 ∧ (∀ σ σ' : Sig, Fz σ σ' o (slC (((subW f.nodes n b).take k).getLastD [])))) ∧ σ' bc = some (cntRow f bm lar1) ∧ σ' bm = some (.map (mapW m1)) ∧ σ' b6 = some (.row [o] 1 1) ∧  Frm bc bm σ σ')
   (fun e σ' => False)
   (fun k x ρ1 σ' => ∃ (j b8 : Nat) (m1 : List (WayT × AV)) (lar1 : Bool) (o : AV), (n.kids[k]? = some (j : Int) ∧ ρ1 2 = .pp [.v (.pointer (some ⟨bc, 0, none⟩))] 0 ∧ ρ1 6 = .v (.pointer (some ⟨b6, 0, none⟩)) ∧ ρ1 7 = .v (.pointer (some ⟨b8, 0, none⟩)) ∧  MidL f.nodes i n b m lar k m1 lar1 ∧ (∀ σ σ' : Sig, Fz σ σ' o (slC (((subW f.nodes n b).take k).getLastD [])))) ∧ σ' b8 = some (.row [int j, .v (.bool (b != decide (n.kind = 2)))] 2 1) ∧ σ' bc = some (cntRow f bm lar1) ∧ σ' bm = some (.map (mapW m1)) ∧ σ' b6 = some (.row [o] 1 1) ∧  Frm bc bm σ σ')
   (by intros; repeat' (first | exact Closed.row (fun h => h) | exact Closed.grow (fun _ h => h) | exact Closed.map (fun h => h) | exact Frm.closed (fun x hx => by first | exact hx | exact (un hx).2 | exact (un (un hx).2).2 | exact (un (un (un hx).2).2).2 | exact (un (un (un (un hx).2).2).2).2) | exact Closed.const _ | refine Closed.ex fun _ => ?_ | refine Closed.and ?_ ?_))
   (by intros; repeat' (first | exact Closed.row (fun h => h) | exact Closed.grow (fun _ h => h) | exact Closed.map (fun h => h) | exact Frm.closed (fun x hx => by first | exact hx | exact (un hx).2 | exact (un (un hx).2).2 | exact (un (un (un hx).2).2).2 | exact (un (un (un (un hx).2).2).2).2) | exact Closed.const _ | refine Closed.ex fun _ => ?_ | refine Closed.and ?_ ?_))
   (by intros; repeat' (first | exact Closed.row (fun h => h) | exact Closed.grow (fun _ h => h) | exact Closed.map (fun h => h) | exact Frm.closed (fun x hx => by first | exact hx | exact (un hx).2 | exact (un (un hx).2).2 | exact (un (un (un hx).2).2).2 | exact (un (un (un (un hx).2).2).2).2) | exact Closed.const _ | refine Closed.ex fun _ => ?_ | refine Closed.and ?_ ?_))
   ?_ ?_ ?_ ?_ ?_
  ·exact ⟨m, lar, _, ⟨MidL.zero hm, fun _ _ => .nil⟩, by simp only [go_sem, xP, xR, xS, m5, m6]; exact hbc, by simp only [go_sem, xP, xR, xS, k5, k6]; exact hbm, by simp only [go_sem, xP, xR, xS], (Frm.refl.new hb5 _).new hb6 _⟩
  ·rintro k x E σ' lq hE hx ⟨m1, lar1, o, ⟨hM, hoo⟩, qc, qm, q6,  hF⟩
   obtain ⟨c, hc', rfl⟩ := waysX_get hx
   obtain ⟨j, rfl⟩ := Int.eq_ofNat_of_zero_le (hd i n hn c (mem_of_get hc')).1
   have e2 : E 2 = .pp [.v (.pointer (some ⟨bc, 0, none⟩))] 0 := by rw [hE 2 (by decide)]; simp only [go_sem, xP, xR, xS]
   have e6 : E 6 = .v (.pointer (some ⟨b6, 0, none⟩)) := by rw [hE 6 (by decide)]; simp only [go_sem, xP, xR, xS]
   skip
   simp only [go_sem, xP, xR, xS, e2, e6]
   intro b8 hb8
   have x6 : ¬ b6 = b8 := nn hb8 q6
   have xc : ¬ bc = b8 := nn hb8 qc
   have xm : ¬ bm = b8 := nn hb8 qm
   skip
   simp only [go_sem, xP, xR, xS, e2, e6, hc']
   refine ⟨(Keep.refl _ _).upd (keep_none hb8), j, b8, m1, lar1, o, ?_⟩
   simp only [go_sem, xP, xR, xS, e2, e6, hc', x6, xc, xm, q6, qc, qm, hc']
   exact ⟨⟨hM, hoo⟩, hF.fresh hb8 _⟩
  ·rintro k x ρ1 σ' lq hx ⟨j, b8, m1, lar1, o, ⟨hc', h2, h6, h7, hM, hoo⟩, q8, qc, qm, q6, hF⟩
   simp only [go_sem, xP, xR, xS, h2, h6, h7, q8]
   obtain ⟨nc, hnc⟩ : ∃ nc, f.nodes[j]? = some nc := ⟨f.nodes[j]'(by have := (hd i n hn _ (mem_of_get hc')).2; have := lt_of_getElem? hn; omega), List.getElem?_eq_getElem _⟩
   have hji : (j : Int) < (i : Int) := (hd i n hn _ (mem_of_get hc')).2
   have hbk := bad_kid hd hn hbad (mem_of_get hc')
   obtain ⟨kl1, kl2, _⟩ := (cnt_cas hd hok (j + 1) j (b != decide (n.kind = 2)) nc (by omega) hnc).2 hbk
   have hsg := subW_get (l := f.nodes) (b := b) hc'
   have htk := take_succ hsg
   refine callB_a (ih j (by omega) (b != decide (n.kind = 2)) m1 lar1 _ _ hbk qc qm hM.memo ?_) rfl
   intro m2 lar2 σ2 hm2 u1 u2 u3 u4 qc2 qm2 hF2
   have hK1 := hF2.keep1 qc qm
   have q62 : σ2 b6 = some (.row [o] 1 1) := hK1 _ _ _ q6
   have hK2 := Frm.keep (n := n) qc own_cnt qm hF2
   have hM2 := hM.succ hc' hji hm2 u1 u2 u3 u4
   have hFF := hF.trans hF2
   simp only [go_sem, xP, xR, xS, h2, h6, h7, q62]
   refine ⟨hK2.upd (keep_row q6 (own_row (by decide))), m2, lar2, slC (casW f.nodes ((j : Int), b != decide (n.kind = 2))), ⟨hM2, fun _ _ => ?_⟩, ?_⟩
   ·rw [htk, List.getLastD_concat]; exact .refl _
   ·simp only [go_sem, xP, xR, xS, m6, k6, qc2, qm2]
    exact hFF.new hb6 _
  ·rintro σ' r hr' ⟨m1, lar1, o, ⟨hMM, hoo⟩, qc, qm, q6,  hF⟩ hdr
   rw [waysX_len] at hMM
   have r6 : ¬ b6 = r := dn hdr q6
   have rc : ¬ bc = r := dn hdr qc
   have rm : ¬ bm = r := fun e => by rw [e, hdr] at qm; cases qm
   have r6' : ¬ r = b6 := fun e => r6 e.symm
   have rc' : ¬ r = bc := fun e => rc e.symm
   have rm' : ¬ r = bm := fun e => rm e.symm
   have hr0 : σ r = none := (un (un hr').2).2
   rw [waysX_len, ← subW_len (l := f.nodes) (b := b), List.take_length] at hoo
   obtain ⟨C, hCC, hC0⟩ : ∃ C, casW f.nodes ((i : Int), b) = C ∧ C = (subW f.nodes n b).getLastD [] := ⟨_, rfl, by rw [hCe, hk]; rfl⟩
   rw [hCC] at cl1 cl2
   have hz : ∀ σ σ' : Sig, Fz σ σ' o (slC C) := fun σ σ' => by rw [hC0]; exact hoo _ _
   simp only [go_sem, xP, xR, xS, q6]
   have hfl : C.flatten.length ≤ 64 * 32 := Nat.le_trans (flat_max C) (Nat.mul_le_mul cl1 cl2)
   refine callB_fz (f258 C (by omega) (by omega)) (.cons (hz _ _) .nil) ?_
   simp only [go_sem, xP, xR, xS]
   refine SemC.loopK mixed C.flatten.length (fun k ρ σ2 ds => (ds = [r] ∧ ρ 2 = .pp [.v (.pointer (some ⟨bc, 0, none⟩))] 0 ∧ ρ 6 = .v (.pointer (some ⟨b6, 0, none⟩)) ∧ ρ 114 = slT C.flatten ∧ ρ 115 = int C.flatten.length ∧ ρ 116 = int k) ∧ σ2 bc = some (cntRow f bm (lar1 || (C.flatten.take k).any larT)) ∧ σ2 bm = some (.map (mapW m1)) ∧ σ2 b6 = some (.row [o] 1 1) ∧ σ2 r = some (.obj (.deferred (some []))) ∧ Frm bc bm σ σ2) (by kernel_rfl) ⟨⟨rfl, by simp only [go_sem, xP, xR, xS], by simp only [go_sem, xP, xR, xS], rfl, rfl, rfl⟩, by simpa using qc, qm, q6, hdr, hF⟩ ?_
   rintro k ρ σ2 ds hk ⟨⟨rfl, h2, h6, h114, h115, h116⟩, pc, pm, p6, hdr, pF⟩
   rcases get_or_end C.flatten k hk with ⟨x, hx, hlt2, hd2⟩ | hk2
   ·have hxf : Fits x.coeffs.length := by
     obtain ⟨y, h1, h2⟩ := List.mem_flatten.1 (mem_of_get hx)
     have := cas_fit hd hc (i + 1) i b n (by omega) hn
     rw [hCC] at this
     exact this y h1 x h2
    rw [any_take hx]
    generalize hzz : (lar1 || (C.flatten.take k).any larT) = z at pc
    have pc' : σ2 bc = some (.row [int f.vars, slN f.nodes, .v (.map (some bm)), .v (.bool z)] 4 1) := pc
    simp only [go_sem, xP, xR, xS, h2, h6, h114, h115, h116, hlt2, ↓tm_part hx]
    intro b14 hb14
    have y6 : ¬ b6 = b14 := nn hb14 p6
    have yc : ¬ bc = b14 := nn hb14 pc
    have ym : ¬ bm = b14 := nn hb14 pm
    have yc' : ¬ b14 = bc := fun e => yc e.symm
    have yr : ¬ r = b14 := fun e => by rw [← e, hdr] at hb14; cases hb14
    cases z with
    | true =>
     simp only [go_sem, xP, xR, xS, h2, h6, h114, h115, h116, hlt2, ↓tm_part hx, pc', y6, yc, yc', ym]
     refine ⟨by rw [wrap_succ _ (by omega)], by rw [← Bool.or_assoc, hzz]; rfl, ?_⟩
     simp only [go_sem, xP, xR, xS, ym, y6, pm, p6, m6', kbc, yr, hdr, rc']
     exact (pF.fresh hb14 _).own (.inl rfl) _
    | false =>
     simp only [go_sem, xP, xR, xS, h2, h6, h114, h115, h116, hlt2, ↓tm_part hx, pc', y6, yc, yc', ym]
     refine dcallB_use (f159 x hxf) rfl ?_
     simp only [go_sem, xP, xR, xS, h2, h6, h114, h115, h116, hlt2, ↓tm_part hx, pc', y6, yc, yc', ym]
     refine ⟨by rw [wrap_succ _ (by omega)], by rw [← Bool.or_assoc, hzz, larT, Bool.false_or, decide_not]; rfl, ?_⟩
     simp only [go_sem, xP, xR, xS, ym, y6, pm, p6, m6', kbc, yr, hdr, rc']
     exact (pF.fresh hb14 _).own (.inl rfl) _
   ·subst hk2
    rw [List.take_length] at pc
    simp only [go_sem, xP, xR, xS, h2, h6, h114, h115, h116, Nat.lt_irrefl, p6, hdr]
    obtain ⟨w1, w2, w3, w4⟩ := hMM.fin hd hn hCC
    exact ⟨slC C, _, hz _ _, Drop.refl _, hCC ▸ hK m1 (lar1 || larC C) _ w1 w2 w3 w4 hMM.new (by rw [ers_ne _ _ _ rc]; exact pc) (by rw [ers_ne _ _ _ rm]; exact pm) (by rw [ers_upd]; exact pF.new hr0 _)⟩
  ·rintro e σ' r hr' hF hdr
   exact hF.elim
 ·have e30 : ((3 : Int) = 0) = False := eq_false (by decide)
  have e31 : ((3 : Int) = 1) = False := eq_false (by decide)
  have e32 : ((3 : Int) = 2) = False := eq_false (by decide)
  simp only [go_sem, xP, xR, xS, hbc', m5, m5', k5, k5', n65, n65', m6, m6', k6, k6', hk, e30, e31, e32]
  intro b7 hb7
  obtain ⟨n76, hb7⟩ := un hb7
  obtain ⟨n75, hb7⟩ := un hb7
  have n76' : ¬ b6 = b7 := fun e => n76 e.symm
  have n75' : ¬ b5 = b7 := fun e => n75 e.symm
  have m7 : ¬ bc = b7 := nn hb7 hbc
  have m7' : ¬ b7 = bc := fun e => m7 e.symm
  have k7 : ¬ bm = b7 := nn hb7 hbm
  have k7' : ¬ b7 = bm := fun e => k7 e.symm
  simp only [go_sem, xP, xR, xS, hbc', m5, m5', k5, k5', n65, n65', m6, m6', k6, k6', hk, n76, n76', n75, n75', m7, m7', k7, k7']
  refine callB_use (f223 f i b) rfl ?_
  simp only [go_sem, xP, xR, xS, hbc', m5, m5', k5, k5', n65, n65', m6, m6', k6, k6', hk, n76, n76', n75, n75', m7, m7', k7, k7']
  refine SemC.rangeE (xs := waysX n b) (D := ownD n) (E := noD) (pre := fun _ => True) (f := 252) (first := []) (captured := [.pp (fmC f) 0, .pp [int i, .v (.bool b)] 0]) mixed (by simp only [go_sem, xP, xR, xS]) (f252 f i b n hn hkf) (by decide) (by kernel_rfl) (by kernel_rfl) own_ctl noD_ctl (fun _ _ _ _ _ _ => trivial)
   (fun k σ' => ∃ (m1 : List (WayT × AV)) (lar1 : Bool) (o : AV), (MidL f.nodes i n b m lar k m1 lar1 ∧ True) ∧ σ' bc = some (cntRow f bm lar1) ∧ σ' bm = some (.map (mapW m1)) ∧ σ' b6 = some (.row [.v (.slice none 0 0)] 1 1) ∧ σ' b7 = some (.row [o] 1 1) ∧ Grow (bas bc bm σ) σ' 1 o (((subW f.nodes n b).take k).map slC) k ∧ Frm bc bm σ σ')
   (fun e σ' => False)
   (fun k x ρ1 σ' => ∃ (j b8 : Nat) (m1 : List (WayT × AV)) (lar1 : Bool) (o : AV), (n.kids[k]? = some (j : Int) ∧ ρ1 2 = .pp [.v (.pointer (some ⟨bc, 0, none⟩))] 0 ∧ ρ1 6 = .v (.pointer (some ⟨b6, 0, none⟩)) ∧ ρ1 9 = .v (.pointer (some ⟨b8, 0, none⟩)) ∧ ρ1 8 = .v (.pointer (some ⟨b7, 0, none⟩)) ∧ MidL f.nodes i n b m lar k m1 lar1 ∧ True) ∧ σ' b8 = some (.row [int j, .v (.bool (b != decide (n.kind = 2)))] 2 1) ∧ σ' bc = some (cntRow f bm lar1) ∧ σ' bm = some (.map (mapW m1)) ∧ σ' b6 = some (.row [.v (.slice none 0 0)] 1 1) ∧ σ' b7 = some (.row [o] 1 1) ∧ Grow (bas bc bm σ) σ' 1 o (((subW f.nodes n b).take k).map slC) k ∧ Frm bc bm σ σ')
   (by intros; repeat' (first | exact Closed.row (fun h => h) | exact Closed.grow (fun _ h => h) | exact Closed.map (fun h => h) | exact Frm.closed (fun x hx => by first | exact hx | exact (un hx).2 | exact (un (un hx).2).2 | exact (un (un (un hx).2).2).2 | exact (un (un (un (un hx).2).2).2).2) | exact Closed.const _ | refine Closed.ex fun _ => ?_ | refine Closed.and ?_ ?_))
   (by intros; repeat' (first | exact Closed.row (fun h => h) | exact Closed.grow (fun _ h => h) | exact Closed.map (fun h => h) | exact Frm.closed (fun x hx => by first | exact hx | exact (un hx).2 | exact (un (un hx).2).2 | exact (un (un (un hx).2).2).2 | exact (un (un (un (un hx).2).2).2).2) | exact Closed.const _ | refine Closed.ex fun _ => ?_ | refine Closed.and ?_ ?_))
   (by intros; repeat' (first | exact Closed.row (fun h => h) | exact Closed.grow (fun _ h => h) | exact Closed.map (fun h => h) | exact Frm.closed (fun x hx => by first | exact hx | exact (un hx).2 | exact (un (un hx).2).2 | exact (un (un (un hx).2).2).2 | exact (un (un (un (un hx).2).2).2).2) | exact Closed.const _ | refine Closed.ex fun _ => ?_ | refine Closed.and ?_ ?_))
   ?_ ?_ ?_ ?_ ?_
  ·exact ⟨m, lar, _, ⟨MidL.zero hm, trivial⟩, by simp only [go_sem, xP, xR, xS, m5, m6, m7]; exact hbc, by simp only [go_sem, xP, xR, xS, k5, k6, k7]; exact hbm, by simp only [go_sem, xP, xR, xS, n76'], by simp only [go_sem, xP, xR, xS], .nil _ _ _, ((Frm.refl.new hb5 _).new hb6 _).new hb7 _⟩
  ·rintro k x E σ' lq hE hx ⟨m1, lar1, o, ⟨hM, hoo⟩, qc, qm, q6, q7, hG, hF⟩
   obtain ⟨c, hc', rfl⟩ := waysX_get hx
   obtain ⟨j, rfl⟩ := Int.eq_ofNat_of_zero_le (hd i n hn c (mem_of_get hc')).1
   have e2 : E 2 = .pp [.v (.pointer (some ⟨bc, 0, none⟩))] 0 := by rw [hE 2 (by decide)]; simp only [go_sem, xP, xR, xS]
   have e6 : E 6 = .v (.pointer (some ⟨b6, 0, none⟩)) := by rw [hE 6 (by decide)]; simp only [go_sem, xP, xR, xS]
   have e8 : E 8 = .v (.pointer (some ⟨b7, 0, none⟩)) := by rw [hE 8 (by decide)]; simp only [go_sem, xP, xR, xS]
   simp only [go_sem, xP, xR, xS, e2, e6]
   intro b8 hb8
   have x6 : ¬ b6 = b8 := nn hb8 q6
   have xc : ¬ bc = b8 := nn hb8 qc
   have xm : ¬ bm = b8 := nn hb8 qm
   have x7 : ¬ b7 = b8 := nn hb8 q7
   simp only [go_sem, xP, xR, xS, e2, e6, hc']
   refine ⟨(Keep.refl _ _).upd (keep_none hb8), j, b8, m1, lar1, o, ?_⟩
   simp only [go_sem, xP, xR, xS, e2, e6, hc', x6, xc, xm, q6, qc, qm, e8, x7, q7]
   exact ⟨hM, hG.upd hb8, hF.fresh hb8 _⟩
  ·rintro k x ρ1 σ' lq hx ⟨j, b8, m1, lar1, o, ⟨hc', h2, h6, h9, h8, hM, _⟩, q8, qc, qm, q6, q7, hG, hF⟩
   simp only [go_sem, xP, xR, xS, h2, h6, h8, h9, q8, q7]
   obtain ⟨nc, hnc⟩ : ∃ nc, f.nodes[j]? = some nc := ⟨f.nodes[j]'(by have := (hd i n hn _ (mem_of_get hc')).2; have := lt_of_getElem? hn; omega), List.getElem?_eq_getElem _⟩
   have hji : (j : Int) < (i : Int) := (hd i n hn _ (mem_of_get hc')).2
   have hbk := bad_kid hd hn hbad (mem_of_get hc')
   obtain ⟨kl1, kl2, _⟩ := (cnt_cas hd hok (j + 1) j (b != decide (n.kind = 2)) nc (by omega) hnc).2 hbk
   have hsg := subW_get (l := f.nodes) (b := b) hc'
   have htk := take_succ hsg
   refine xcallB_a (ih j (by omega) (b != decide (n.kind = 2)) m1 lar1 _ _ hbk qc qm hM.memo ?_) rfl
   intro m2 lar2 σ2 hm2 u1 u2 u3 u4 qc2 qm2 hF2
   have hK1 := hF2.keep1 qc qm
   have q62 : σ2 b6 = some (.row [.v (.slice none 0 0)] 1 1) := hK1 _ _ _ q6
   have hK2 := Frm.keep (n := n) qc own_cnt qm hF2
   have hM2 := hM.succ hc' hji hm2 u1 u2 u3 u4
   have hFF := hF.trans hF2
   refine ⟨hK1, ?_⟩
   have q72 := hK1 _ _ _ q7
   have hG2 := hG.keep1 hK1
   have hkx : k < n.kids.length := lt_of_getElem? hc'
   have hkf' : n.kids.length ≤ 1000000000000 := hkf
   simp only [go_sem, xP, xR, xS, h2, h6, h8, h9, q62, q72]
   refine appB_sl (appT_sl el344 tk73 by73 el344 (by decide) rfl (by decide)) hFF.drop hG2 rfl rfl (by omega) (fun a' σ3 hD3 hO hG3 => ?_)
   have q73 : σ3 b7 = some (.row [o] 1 1) := by rw [hO b7 (hG2.neC q72 (slC_neG hG2)) (by rw [q72]; simp)]; exact q72
   have q63 : σ3 b6 = some (.row [.v (.slice none 0 0)] 1 1) := by rw [hO b6 (hG2.neC q62 slC_ne) (by rw [q62]; simp)]; exact q62
   have qc3 : σ3 bc = some (cntRow f bm lar2) := by rw [hO bc (hG2.neS qc2 (by decide)) (by rw [qc2]; simp)]; exact qc2
   have qm3 : σ3 bm = some (.map (mapW m2)) := by rw [hO bm (hG2.neM qm2) (by rw [qm2]; simp)]; exact qm2
   have hc2 := hG3.cellsX
   have ho2 := hG3.oneX
   simp only [go_sem, xP, xR, xS, h2, h6, h8, h9, q73, hc2, ho2]
   have hG4 : Grow (bas bc bm σ) σ3 1 a' (((subW f.nodes n b).take (k + 1)).map slC) (k + 1) := by rw [htk, List.map_append]; exact hG3
   have hKO : Keep (KD (ownD n)) σ2 σ3 := fun x y hx hy => by
    rw [hO x ?_ (by rw [hx]; simp)]; · exact hx
    intro s1 o' m' e
    rcases hG2 with ⟨h, _⟩ | ⟨b', c, h0, h1, h2, h3⟩
    ·rcases h with h | h <;> rw [h] at e <;> cases e
    ·rw [h0] at e
     cases e
     rw [hx] at h2
     cases h2
     rcases hy with hy | hy
     ·exact hy
     ·exact own_row (by decide) hy
   refine ⟨((hK2.trans hKO).upd (keep_row q7 (own_row (by decide)))), m2, lar2, a', hM2, ?_⟩
   simp only [go_sem, xP, xR, xS, m7, k7, n76', qc3, qm3, q63]
   exact ⟨hG4.updW (hG4.neC q73 (slC_neG hG2)) _, (Frm.of_drop hD3).new hb7 _⟩
  ·rintro σ' r hr' ⟨m1, lar1, o, ⟨hMM, hoo⟩, qc, qm, q6, q7, hG, hF⟩ hdr
   rw [waysX_len] at hMM
   have r6 : ¬ b6 = r := dn hdr q6
   have rc : ¬ bc = r := dn hdr qc
   have rm : ¬ bm = r := fun e => by rw [e, hdr] at qm; cases qm
   have r6' : ¬ r = b6 := fun e => r6 e.symm
   have rc' : ¬ r = bc := fun e => rc e.symm
   have rm' : ¬ r = bm := fun e => rm e.symm
   have r7 : ¬ b7 = r := dn hdr q7
   have r7' : ¬ r = b7 := fun e => r7 e.symm
   have hr0 : σ r = none := (un (un (un hr').2).2).2
   rw [waysX_len, ← subW_len (l := f.nodes) (b := b), List.take_length] at hG
   have hmk : casW f.nodes ((i : Int), b) = if (subW f.nodes n b).any (fun x => decide (x.length = 0)) then [] else (subW f.nodes n b).foldl prodC [[]] := by rw [hCe, hk]; rfl
   have hSl : Fits (subW f.nodes n b).length := by rw [subW_len]; exact hkf
   simp only [go_sem, xP, xR, xS]
   refine frzB_grow2 (s := 1) 8 b7 (by simp only [go_sem, xP, xR, xS]) q7 hG (hG.neC q7 (slC_neG hG)) (fun σ3 hD3 hP => ?_)
   have qc3 : σ3 bc = some (cntRow f bm lar1) := by rw [hP bc m7 (hG.neS qc (by decide))]; exact qc
   have qm3 : σ3 bm = some (.map (mapW m1)) := by rw [hP bm k7 (hG.neM qm)]; exact qm
   have q63 : σ3 b6 = some (.row [.v (.slice none 0 0)] 1 1) := by rw [hP b6 n76' (hG.neC q6 slC_ne)]; exact q6
   have hdr3 : σ3 r = some (.obj (.deferred (some []))) := by rw [hP r r7' (hG.neO hdr)]; exact hdr
   have hF3 : Frm bc bm σ σ3 := fun x y g1 g2 g3 => by
    rw [hP x (fun e => by rw [e, hb7] at g3; cases g3) (hG.neB (by rw [bas, if_neg (by rintro (e | e) <;> contradiction), g3]; simp))]
    exact hF x y g1 g2 g3
   simp only [go_sem, xP, xR, xS]
   refine callB_use (f254 (subW f.nodes n b) hSl _ (fun x => decide (x.length = 0)) (fun x _ => dcall_of (f255 x) rfl)) rfl ?_
   cases hany : (subW f.nodes n b).any (fun x => decide (x.length = 0)) with
   | true =>
    rw [hany] at hmk
    have hCC : casW f.nodes ((i : Int), b) = [] := hmk
    simp only [go_sem, xP, xR, xS, hdr3]
    obtain ⟨w1, w2, w3, w4⟩ := hMM.fin hd hn hCC
    have e0 : (lar1 || larC []) = lar1 := Bool.or_false _
    rw [e0] at w1 w2 w3 w4
    exact ⟨slC [], _, .nil, Drop.refl _, hCC ▸ hK m1 lar1 _ w1 w2 w3 w4 hMM.new (by rw [ers_ne _ _ _ rc]; exact qc3) (by rw [ers_ne _ _ _ rm]; exact qm3) (by rw [ers_upd]; exact hF3.new hr0 _)⟩
   | false =>
    rw [hany] at hmk
    obtain ⟨C, hCC, hC0⟩ : ∃ C, casW f.nodes ((i : Int), b) = C ∧ C = (subW f.nodes n b).foldl prodC [[]] := ⟨_, rfl, hmk⟩
    rw [hCC] at cl1 cl2
    have hne : ∀ D ∈ subW f.nodes n b, D ≠ [] := fun D hD e => by
     have := List.any_eq_false.1 hany D hD
     rw [e] at this
     exact this rfl
    have hkid : ∀ D ∈ subW f.nodes n b, D.length ≤ 64 ∧ maxL D ≤ 32 := fun D hD => by
     obtain ⟨x, hx, rfl⟩ := List.mem_map.1 hD
     obtain ⟨j, rfl⟩ := Int.eq_ofNat_of_zero_le (hd i n hn x hx).1
     obtain ⟨nc, hnc⟩ : ∃ nc, f.nodes[j]? = some nc := ⟨f.nodes[j]'(by have := (hd i n hn _ hx).2; omega), List.getElem?_eq_getElem _⟩
     obtain ⟨g1, g2, _⟩ := (cnt_cas hd hok (j + 1) j (b != decide (n.kind = 2)) nc (by omega) hnc).2 (bad_kid hd hn hbad hx)
     exact ⟨g1, g2⟩
    simp only [go_sem, xP, xR, xS, q63]
    refine SemC.loopK mixed (subW f.nodes n b).length (fun k ρ σ2 ds => ∃ o2 : AV, (ds = [r] ∧ ρ 2 = .pp [.v (.pointer (some ⟨bc, 0, none⟩))] 0 ∧ ρ 6 = .v (.pointer (some ⟨b6, 0, none⟩)) ∧ ρ 88 = slCC (subW f.nodes n b) ∧ ρ 89 = int (subW f.nodes n b).length ∧ ρ 90 = int k ∧ ∀ σ σ' : Sig, Fz σ σ' o2 (slC (((subW f.nodes n b).take k).foldl prodC [[]]))) ∧ σ2 bc = some (cntRow f bm lar1) ∧ σ2 bm = some (.map (mapW m1)) ∧ σ2 b6 = some (.row [o2] 1 1) ∧ σ2 r = some (.obj (.deferred (some []))) ∧ Frm bc bm σ σ2) (by kernel_rfl) ⟨_, ⟨rfl, by simp only [go_sem, xP, xR, xS], by simp only [go_sem, xP, xR, xS], by simp only [go_sem, xP, xR, xS], by simp only [go_sem, xP, xR, xS], by simp only [go_sem, xP, xR, xS], fun _ _ => .sl (.cons .nil .nil)⟩, by rw [upd_ne _ _ _ _ m6]; exact qc3, by rw [upd_ne _ _ _ _ k6]; exact qm3, upd_same _ _ _, by rw [upd_ne _ _ _ _ r6']; exact hdr3, hF3.new hb6 _⟩ ?_
    rintro k ρ σ2 ds hk0 ⟨o2, ⟨rfl, h2, h6, h88, h89, h90, hoo⟩, qc, qm, q6, hdr, hF⟩
    rcases get_or_end (subW f.nodes n b) k hk0 with ⟨x, hx, hlt2, hd2⟩ | hk2
    ·obtain ⟨g1, g2⟩ := prod_part hne k
     rw [← hC0] at g1 g2
     obtain ⟨g3, g4⟩ := hkid x (mem_of_get hx)
     simp only [go_sem, xP, xR, xS, h2, h6, h88, h89, h90, hlt2, hx, q6]
     refine callB_fz (f256 (((subW f.nodes n b).take k).foldl prodC [[]]) x (by omega) (by omega) (fun y hy => by have := maxL_mem hy; omega) (fun y hy => by have := maxL_mem hy; omega)) (.cons (hoo _ _) (.cons (.refl _) .nil)) ?_
     simp only [go_sem, xP, xR, xS, h2, h6, h88, h89, h90, q6]
     refine ⟨slC (prodC (((subW f.nodes n b).take k).foldl prodC [[]]) x), ⟨by rw [wrap_succ _ (by omega)], fun _ _ => ?_⟩, ?_⟩
     ·rw [take_succ hx, List.foldl_append]; exact .refl _
     ·simp only [go_sem, xP, xR, xS, m6, k6, r6', qc, qm, hdr]
      exact hF.new hb6 _
    ·subst hk2
     rw [List.take_length] at hoo
     have hz : ∀ σ σ' : Sig, Fz σ σ' o2 (slC C) := fun σ σ' => by rw [hC0]; exact hoo _ _
     simp only [go_sem, xP, xR, xS, h2, h6, h88, h89, h90, Nat.lt_irrefl, q6]
     have hfl : C.flatten.length ≤ 64 * 32 := Nat.le_trans (flat_max C) (Nat.mul_le_mul cl1 cl2)
     refine callB_fz (f258 C (by omega) (by omega)) (.cons (hz _ _) .nil) ?_
     simp only [go_sem, xP, xR, xS]
     refine SemC.loopK mixed C.flatten.length (fun k ρ σ2 ds => (ds = [r] ∧ ρ 2 = .pp [.v (.pointer (some ⟨bc, 0, none⟩))] 0 ∧ ρ 6 = .v (.pointer (some ⟨b6, 0, none⟩)) ∧ ρ 114 = slT C.flatten ∧ ρ 115 = int C.flatten.length ∧ ρ 116 = int k) ∧ σ2 bc = some (cntRow f bm (lar1 || (C.flatten.take k).any larT)) ∧ σ2 bm = some (.map (mapW m1)) ∧ σ2 b6 = some (.row [o2] 1 1) ∧ σ2 r = some (.obj (.deferred (some []))) ∧ Frm bc bm σ σ2) (by kernel_rfl) ⟨⟨rfl, by simp only [go_sem, xP, xR, xS, h2, h6], by simp only [go_sem, xP, xR, xS, h2, h6], rfl, rfl, rfl⟩, by simpa using qc, qm, q6, hdr, hF⟩ ?_
     rintro k ρ σ2 ds hk ⟨⟨rfl, h2, h6, h114, h115, h116⟩, pc, pm, p6, hdr, pF⟩
     rcases get_or_end C.flatten k hk with ⟨x, hx, hlt2, hd2⟩ | hk2
     ·have hxf : Fits x.coeffs.length := by
       obtain ⟨y, h1, h2⟩ := List.mem_flatten.1 (mem_of_get hx)
       have := cas_fit hd hc (i + 1) i b n (by omega) hn
       rw [hCC] at this
       exact this y h1 x h2
      rw [any_take hx]
      generalize hzz : (lar1 || (C.flatten.take k).any larT) = z at pc
      have pc' : σ2 bc = some (.row [int f.vars, slN f.nodes, .v (.map (some bm)), .v (.bool z)] 4 1) := pc
      simp only [go_sem, xP, xR, xS, h2, h6, h114, h115, h116, hlt2, ↓tm_part hx]
      intro b14 hb14
      have y6 : ¬ b6 = b14 := nn hb14 p6
      have yc : ¬ bc = b14 := nn hb14 pc
      have ym : ¬ bm = b14 := nn hb14 pm
      have yc' : ¬ b14 = bc := fun e => yc e.symm
      have yr : ¬ r = b14 := fun e => by rw [← e, hdr] at hb14; cases hb14
      cases z with
      | true =>
       simp only [go_sem, xP, xR, xS, h2, h6, h114, h115, h116, hlt2, ↓tm_part hx, pc', y6, yc, yc', ym]
       refine ⟨by rw [wrap_succ _ (by omega)], by rw [← Bool.or_assoc, hzz]; rfl, ?_⟩
       simp only [go_sem, xP, xR, xS, ym, y6, pm, p6, m6', kbc, yr, hdr, rc']
       exact (pF.fresh hb14 _).own (.inl rfl) _
      | false =>
       simp only [go_sem, xP, xR, xS, h2, h6, h114, h115, h116, hlt2, ↓tm_part hx, pc', y6, yc, yc', ym]
       refine dcallB_use (f159 x hxf) rfl ?_
       simp only [go_sem, xP, xR, xS, h2, h6, h114, h115, h116, hlt2, ↓tm_part hx, pc', y6, yc, yc', ym]
       refine ⟨by rw [wrap_succ _ (by omega)], by rw [← Bool.or_assoc, hzz, larT, Bool.false_or, decide_not]; rfl, ?_⟩
       simp only [go_sem, xP, xR, xS, ym, y6, pm, p6, m6', kbc, yr, hdr, rc']
       exact (pF.fresh hb14 _).own (.inl rfl) _
     ·subst hk2
      rw [List.take_length] at pc
      simp only [go_sem, xP, xR, xS, h2, h6, h114, h115, h116, Nat.lt_irrefl, p6, hdr]
      obtain ⟨w1, w2, w3, w4⟩ := hMM.fin hd hn hCC
      exact ⟨slC C, _, hz _ _, Drop.refl _, hCC ▸ hK m1 (lar1 || larC C) _ w1 w2 w3 w4 hMM.new (by rw [ers_ne _ _ _ rc]; exact pc) (by rw [ers_ne _ _ _ rm]; exact pm) (by rw [ers_upd]; exact pF.new hr0 _)⟩
  ·rintro e σ' r hr' hF hdr
   exact hF.elim
 ·have e40 : ((4 : Int) = 0) = False := eq_false (by decide)
  have e41 : ((4 : Int) = 1) = False := eq_false (by decide)
  have e42 : ((4 : Int) = 2) = False := eq_false (by decide)
  have e43 : ((4 : Int) = 3) = False := eq_false (by decide)
  simp only [go_sem, xP, xR, xS, hbc', m5, m5', k5, k5', n65, n65', m6, m6', k6, k6', hk, e40, e41, e42, e43]
  refine callB_use (f223 f i b) rfl ?_
  simp only [go_sem, xP, xR, xS, hbc', m5, m5', k5, k5', n65, n65', m6, m6', k6, k6', hk]
  have hCS : casW f.nodes ((i : Int), b) = (subW f.nodes n b).flatten := by rw [hCe, hk]; rfl
  refine SemC.rangeE (xs := waysX n b) (D := ownD n) (E := noD) (pre := fun _ => True) (f := 252) (first := []) (captured := [.pp (fmC f) 0, .pp [int i, .v (.bool b)] 0]) mixed (by simp only [go_sem, xP, xR, xS]) (f252 f i b n hn hkf) (by decide) (by kernel_rfl) (by kernel_rfl) own_ctl noD_ctl (fun _ _ _ _ _ _ => trivial)
   (fun k σ' => ∃ (m1 : List (WayT × AV)) (lar1 : Bool) (o : AV), (MidL f.nodes i n b m lar k m1 lar1 ∧ ((∀ σ σ' : Sig, Fz σ σ' o (slC ((subW f.nodes n b).take k).flatten)) ∧ o.cells? = some [o])) ∧ σ' bc = some (cntRow f bm lar1) ∧ σ' bm = some (.map (mapW m1)) ∧ σ' b6 = some (.row [o] 1 1) ∧  Frm bc bm σ σ')
   (fun e σ' => False)
   (fun k x ρ1 σ' => ∃ (j b8 : Nat) (m1 : List (WayT × AV)) (lar1 : Bool) (o : AV), (n.kids[k]? = some (j : Int) ∧ ρ1 2 = .pp [.v (.pointer (some ⟨bc, 0, none⟩))] 0 ∧ ρ1 6 = .v (.pointer (some ⟨b6, 0, none⟩)) ∧ ρ1 12 = .v (.pointer (some ⟨b8, 0, none⟩)) ∧  MidL f.nodes i n b m lar k m1 lar1 ∧ ((∀ σ σ' : Sig, Fz σ σ' o (slC ((subW f.nodes n b).take k).flatten)) ∧ o.cells? = some [o])) ∧ σ' b8 = some (.row [int j, .v (.bool (b != decide (n.kind = 2)))] 2 1) ∧ σ' bc = some (cntRow f bm lar1) ∧ σ' bm = some (.map (mapW m1)) ∧ σ' b6 = some (.row [o] 1 1) ∧  Frm bc bm σ σ')
   (by intros; repeat' (first | exact Closed.row (fun h => h) | exact Closed.grow (fun _ h => h) | exact Closed.map (fun h => h) | exact Frm.closed (fun x hx => by first | exact hx | exact (un hx).2 | exact (un (un hx).2).2 | exact (un (un (un hx).2).2).2 | exact (un (un (un (un hx).2).2).2).2) | exact Closed.const _ | refine Closed.ex fun _ => ?_ | refine Closed.and ?_ ?_))
   (by intros; repeat' (first | exact Closed.row (fun h => h) | exact Closed.grow (fun _ h => h) | exact Closed.map (fun h => h) | exact Frm.closed (fun x hx => by first | exact hx | exact (un hx).2 | exact (un (un hx).2).2 | exact (un (un (un hx).2).2).2 | exact (un (un (un (un hx).2).2).2).2) | exact Closed.const _ | refine Closed.ex fun _ => ?_ | refine Closed.and ?_ ?_))
   (by intros; repeat' (first | exact Closed.row (fun h => h) | exact Closed.grow (fun _ h => h) | exact Closed.map (fun h => h) | exact Frm.closed (fun x hx => by first | exact hx | exact (un hx).2 | exact (un (un hx).2).2 | exact (un (un (un hx).2).2).2 | exact (un (un (un (un hx).2).2).2).2) | exact Closed.const _ | refine Closed.ex fun _ => ?_ | refine Closed.and ?_ ?_))
   ?_ ?_ ?_ ?_ ?_
  ·exact ⟨m, lar, _, ⟨MidL.zero hm, fun _ _ => .nil, rfl⟩, by simp only [go_sem, xP, xR, xS, m5, m6]; exact hbc, by simp only [go_sem, xP, xR, xS, k5, k6]; exact hbm, by simp only [go_sem, xP, xR, xS], (Frm.refl.new hb5 _).new hb6 _⟩
  ·rintro k x E σ' lq hE hx ⟨m1, lar1, o, ⟨hM, ⟨hoo, hoc⟩⟩, qc, qm, q6,  hF⟩
   obtain ⟨c, hc', rfl⟩ := waysX_get hx
   obtain ⟨j, rfl⟩ := Int.eq_ofNat_of_zero_le (hd i n hn c (mem_of_get hc')).1
   have e2 : E 2 = .pp [.v (.pointer (some ⟨bc, 0, none⟩))] 0 := by rw [hE 2 (by decide)]; simp only [go_sem, xP, xR, xS]
   have e6 : E 6 = .v (.pointer (some ⟨b6, 0, none⟩)) := by rw [hE 6 (by decide)]; simp only [go_sem, xP, xR, xS]
   skip
   simp only [go_sem, xP, xR, xS, e2, e6]
   intro b8 hb8
   have x6 : ¬ b6 = b8 := nn hb8 q6
   have xc : ¬ bc = b8 := nn hb8 qc
   have xm : ¬ bm = b8 := nn hb8 qm
   skip
   simp only [go_sem, xP, xR, xS, e2, e6, hc']
   refine ⟨(Keep.refl _ _).upd (keep_none hb8), j, b8, m1, lar1, o, ?_⟩
   simp only [go_sem, xP, xR, xS, e2, e6, hc', x6, xc, xm, q6, qc, qm, hc']
   exact ⟨⟨hM, hoo, hoc⟩, hF.fresh hb8 _⟩
  ·rintro k x ρ1 σ' lq hx ⟨j, b8, m1, lar1, o, ⟨hc', h2, h6, h7, hM, hoo, hoc⟩, q8, qc, qm, q6, hF⟩
   simp only [go_sem, xP, xR, xS, h2, h6, h7, q8, q6]
   obtain ⟨nc, hnc⟩ : ∃ nc, f.nodes[j]? = some nc := ⟨f.nodes[j]'(by have := (hd i n hn _ (mem_of_get hc')).2; have := lt_of_getElem? hn; omega), List.getElem?_eq_getElem _⟩
   have hji : (j : Int) < (i : Int) := (hd i n hn _ (mem_of_get hc')).2
   have hbk := bad_kid hd hn hbad (mem_of_get hc')
   obtain ⟨kl1, kl2, _⟩ := (cnt_cas hd hok (j + 1) j (b != decide (n.kind = 2)) nc (by omega) hnc).2 hbk
   have hsg := subW_get (l := f.nodes) (b := b) hc'
   have htk := take_succ hsg
   refine xcallB_a (ih j (by omega) (b != decide (n.kind = 2)) m1 lar1 _ _ hbk qc qm hM.memo ?_) rfl
   intro m2 lar2 σ2 hm2 u1 u2 u3 u4 qc2 qm2 hF2
   have hK1 := hF2.keep1 qc qm
   have q62 : σ2 b6 = some (.row [o] 1 1) := hK1 _ _ _ q6
   have hK2 := Frm.keep (n := n) qc own_cnt qm hF2
   have hM2 := hM.succ hc' hji hm2 u1 u2 u3 u4
   have hFF := hF.trans hF2
   refine ⟨hK1, ?_⟩
   have hfl := flat_le (l := subW f.nodes n b) k
   rw [← hCS] at hfl
   simp only [go_sem, xP, xR, xS, h2, h6, h7, q62, hoc]
   refine callB_fz (f257 [((subW f.nodes n b).take k).flatten, casW f.nodes ((j : Int), b != decide (n.kind = 2))] (by simp) (by simp only [List.flatten_cons, List.flatten_nil, List.append_nil, List.length_append]; omega)) (by exact FzL.cons (Fz.sl (FzL.cons (hoo _ _) (FzL.cons (.refl _) .nil))) .nil) ?_
   simp only [go_sem, xP, xR, xS, h2, h6, h7, q62]
   refine ⟨hK2.upd (keep_row q6 (own_row (by decide))), m2, lar2, slC [((subW f.nodes n b).take k).flatten, casW f.nodes ((j : Int), b != decide (n.kind = 2))].flatten, ⟨hM2, fun _ _ => ?_, rfl⟩, ?_⟩
   ·rw [htk]
    have e : [((subW f.nodes n b).take k).flatten, casW f.nodes ((j : Int), b != decide (n.kind = 2))].flatten = ((subW f.nodes n b).take k ++ [casW f.nodes ((j : Int), b != decide (n.kind = 2))]).flatten := by simp
    rw [e]
    exact .refl _
   ·simp only [go_sem, xP, xR, xS, m6, k6, qc2, qm2]
    exact hFF.new hb6 _
  ·rintro σ' r hr' ⟨m1, lar1, o, ⟨hMM, ⟨hoo, hoc⟩⟩, qc, qm, q6,  hF⟩ hdr
   rw [waysX_len] at hMM
   have r6 : ¬ b6 = r := dn hdr q6
   have rc : ¬ bc = r := dn hdr qc
   have rm : ¬ bm = r := fun e => by rw [e, hdr] at qm; cases qm
   have r6' : ¬ r = b6 := fun e => r6 e.symm
   have rc' : ¬ r = bc := fun e => rc e.symm
   have rm' : ¬ r = bm := fun e => rm e.symm
   have hr0 : σ r = none := (un (un hr').2).2
   rw [waysX_len, ← subW_len (l := f.nodes) (b := b), List.take_length] at hoo
   obtain ⟨C, hCC, hC0⟩ : ∃ C, casW f.nodes ((i : Int), b) = C ∧ C = (subW f.nodes n b).flatten := ⟨_, rfl, hCS⟩
   rw [hCC] at cl1 cl2
   have hz : ∀ σ σ' : Sig, Fz σ σ' o (slC C) := fun σ σ' => by rw [hC0]; exact hoo _ _
   simp only [go_sem, xP, xR, xS, q6]
   have hfl : C.flatten.length ≤ 64 * 32 := Nat.le_trans (flat_max C) (Nat.mul_le_mul cl1 cl2)
   refine callB_fz (f258 C (by omega) (by omega)) (.cons (hz _ _) .nil) ?_
   simp only [go_sem, xP, xR, xS]
   refine SemC.loopK mixed C.flatten.length (fun k ρ σ2 ds => (ds = [r] ∧ ρ 2 = .pp [.v (.pointer (some ⟨bc, 0, none⟩))] 0 ∧ ρ 6 = .v (.pointer (some ⟨b6, 0, none⟩)) ∧ ρ 114 = slT C.flatten ∧ ρ 115 = int C.flatten.length ∧ ρ 116 = int k) ∧ σ2 bc = some (cntRow f bm (lar1 || (C.flatten.take k).any larT)) ∧ σ2 bm = some (.map (mapW m1)) ∧ σ2 b6 = some (.row [o] 1 1) ∧ σ2 r = some (.obj (.deferred (some []))) ∧ Frm bc bm σ σ2) (by kernel_rfl) ⟨⟨rfl, by simp only [go_sem, xP, xR, xS], by simp only [go_sem, xP, xR, xS], rfl, rfl, rfl⟩, by simpa using qc, qm, q6, hdr, hF⟩ ?_
   rintro k ρ σ2 ds hk ⟨⟨rfl, h2, h6, h114, h115, h116⟩, pc, pm, p6, hdr, pF⟩
   rcases get_or_end C.flatten k hk with ⟨x, hx, hlt2, hd2⟩ | hk2
   ·have hxf : Fits x.coeffs.length := by
     obtain ⟨y, h1, h2⟩ := List.mem_flatten.1 (mem_of_get hx)
     have := cas_fit hd hc (i + 1) i b n (by omega) hn
     rw [hCC] at this
     exact this y h1 x h2
    rw [any_take hx]
    generalize hzz : (lar1 || (C.flatten.take k).any larT) = z at pc
    have pc' : σ2 bc = some (.row [int f.vars, slN f.nodes, .v (.map (some bm)), .v (.bool z)] 4 1) := pc
    simp only [go_sem, xP, xR, xS, h2, h6, h114, h115, h116, hlt2, ↓tm_part hx]
    intro b14 hb14
    have y6 : ¬ b6 = b14 := nn hb14 p6
    have yc : ¬ bc = b14 := nn hb14 pc
    have ym : ¬ bm = b14 := nn hb14 pm
    have yc' : ¬ b14 = bc := fun e => yc e.symm
    have yr : ¬ r = b14 := fun e => by rw [← e, hdr] at hb14; cases hb14
    cases z with
    | true =>
     simp only [go_sem, xP, xR, xS, h2, h6, h114, h115, h116, hlt2, ↓tm_part hx, pc', y6, yc, yc', ym]
     refine ⟨by rw [wrap_succ _ (by omega)], by rw [← Bool.or_assoc, hzz]; rfl, ?_⟩
     simp only [go_sem, xP, xR, xS, ym, y6, pm, p6, m6', kbc, yr, hdr, rc']
     exact (pF.fresh hb14 _).own (.inl rfl) _
    | false =>
     simp only [go_sem, xP, xR, xS, h2, h6, h114, h115, h116, hlt2, ↓tm_part hx, pc', y6, yc, yc', ym]
     refine dcallB_use (f159 x hxf) rfl ?_
     simp only [go_sem, xP, xR, xS, h2, h6, h114, h115, h116, hlt2, ↓tm_part hx, pc', y6, yc, yc', ym]
     refine ⟨by rw [wrap_succ _ (by omega)], by rw [← Bool.or_assoc, hzz, larT, Bool.false_or, decide_not]; rfl, ?_⟩
     simp only [go_sem, xP, xR, xS, ym, y6, pm, p6, m6', kbc, yr, hdr, rc']
     exact (pF.fresh hb14 _).own (.inl rfl) _
   ·subst hk2
    rw [List.take_length] at pc
    simp only [go_sem, xP, xR, xS, h2, h6, h114, h115, h116, Nat.lt_irrefl, p6, hdr]
    obtain ⟨w1, w2, w3, w4⟩ := hMM.fin hd hn hCC
    exact ⟨slC C, _, hz _ _, Drop.refl _, hCC ▸ hK m1 (lar1 || larC C) _ w1 w2 w3 w4 hMM.new (by rw [ers_ne _ _ _ rc]; exact pc) (by rw [ers_ne _ _ _ rm]; exact pm) (by rw [ers_upd]; exact pF.new hr0 _)⟩
  ·rintro e σ' r hr' hF hdr
   exact hF.elim
end Go.AL
