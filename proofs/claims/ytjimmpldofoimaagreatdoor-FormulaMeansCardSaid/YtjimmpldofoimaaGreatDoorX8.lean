/- Opposite; copies told; same formulas. -/
import Derived.Test.YtjimmpldofoimaaGreatDoorWb
import Derived.Test.YtjimmpldofoimaaGreatDoorXc
open Nat renaming reduceEqDiff → xQ, reduceAdd → xA, reduceMul → xM, reduceLeDiff → xL
open Int renaming reduceLT → xT, reduceLE → xE, reduceToNat → xN
open Go.AL renaming retPost_one → xP, retPost_oneN → xR, ers_at' → xS
set_option linter.unusedVariables false
set_option linter.unusedSimpArgs false
namespace Go.AL
open Go.Proofs
variable {Γ : Glob}
attribute [local irreducible] codeW opsW dopsW
@[reducible] noncomputable def p65z (Γ : Glob) : Par := par Γ [2, 5, 23] [(1, [false, true]), (4, [false, true])] [(1, [0, 1, 0, 4, 12, 28, 63, 127, 255, 511]), (4, [0, 1, 0, 4, 12, 31, 0, 127])]
theorem ok65z (Γ : Glob) : FnOk (p65z Γ) 65 37 (Tryz.f65.body.getD .skip) Tryz.f65.results.toList 1 := fnOk (par_mixed _ _ _ _) Tryz.func65 rfl rfl rfl (by kernel_rfl) (Nat.le_of_ble_eq_true rfl) (by kernel_rfl)
theorem made_of_grow {σ σ' : Sig} {s n : Nat} {a : AV} {cs : List AV} {K : AV → Sig → Prop} (hG : Grow σ σ' s a cs n) (hD : Drop σ' σ) (hK : ∀ a τ, Made σ s cs n a τ → K a τ) : ∃ r0 σ0, Fz σ' σ0 a r0 ∧ Drop σ' σ0 ∧ K r0 σ0 := by
  rcases hG with ⟨h1, h2, h3⟩ | ⟨b, c, rfl, h1, h2, h3⟩
  · exact ⟨a, σ, .refl _, hD, hK _ _ (.inl ⟨h1, h2, h3, rfl⟩)⟩
  · refine ⟨_, _, .refl _, fun i => ?_, hK _ _ (.inr ⟨b, c, h1, rfl, rfl, h3⟩)⟩
    by_cases hi : i = b
    · subst hi; right; rw [upd_same, h2]
    · rw [upd_ne _ _ _ _ hi]; exact hD i
theorem f163o (l : List Nd) (hl : Fits l.length) (fv : AV) (g : Nd → Nd) (hg : ∀ x ∈ l, DCall Tryz.prog Γ fv [ndA x] (ndA (g x))) : OCall Tryz.prog Γ (.fn (.func 163) [] []) [slN l, fv] 4 ((l.map g).flatMap ndC) l.length := by
  refine ⟨by rw [rows_length ndC_len, List.length_map], fun σ K hK => ?_⟩
  show ACalls Tryz.prog Γ 163 ([] ++ [slN l, fv] ++ []) σ K
  refine ACalls.retK (acalls (ok163 Γ) ?_)
  simp only [go_sem, xQ, ↓reduceIte, xA, xM, xL, xT, xE, xN, xP, xR, xS, Tryz.f163]
  refine SemC.loopK mixed l.length (fun k ρ σ' ds => Drop σ' σ ∧ ds = [] ∧ ρ 1 = fv ∧ ρ 8 = slN l ∧ ρ 9 = int l.length ∧ ρ 10 = int k ∧ Grow σ σ' 4 (ρ 5) (((l.take k).map g).flatMap ndC) k) (by kernel_rfl) ⟨.refl _, rfl, rfl, rfl, rfl, rfl, .nil _ _ _⟩ ?_
  rintro k ρ σ' ds hk ⟨hD, rfl, h1, h8, h9, h10, hG⟩
  rcases get_or_end l k hk with ⟨x, hx, hlt, hd⟩ | rfl
  · simp only [go_sem, xQ, ↓reduceIte, xA, xM, xL, xT, xE, xN, xP, xR, xS, h1, h8, h9, h10, hlt, hx, ↓nd_part hx]
    intro b hb
    simp only [go_sem, xQ, ↓reduceIte, xA, xM, xL, xT, xE, xN, xP, xR, xS, h1, h8, h9, h10, hlt, hx, ↓nd_part hx]
    refine callB_d (hg x (mem_of_get hx)) ?_
    simp only [go_sem, xQ, ↓reduceIte, xA, xM, xL, xT, xE, xN, xP, xR, xS]
    refine appB_sl (appT_sl el64 tk216 by216 el64 (by decide) rfl (by decide)) (hD.upd (hD.free hb)) (hG.upd hb) rfl rfl (by omega) (fun a' σ2 hD2 hO hG2 => ?_)
    simp only [go_sem, xQ, ↓reduceIte, xA, xM, xL, xT, xE, xN, xP, xR, xS, h1, h8, h9, h10]
    refine ⟨hD2, by rw [wrap_succ _ (by omega)], ?_⟩
    rw [take_succ hx, List.map_append, List.flatMap_append]
    simpa [ndC, slI, int] using hG2
  · rw [List.take_length] at hG
    simp only [go_sem, xQ, ↓reduceIte, xA, xM, xL, xT, xE, xN, xP, xR, xS, h8, h9, h10, Nat.lt_irrefl]
    exact made_of_grow hG hD hK
theorem FzL.app {σ σ' : Sig} : ∀ {a a' b b' : List AV}, FzL σ σ' a a' → FzL σ σ' b b' → FzL σ σ' (a ++ b) (a' ++ b')
  | _, _, _, _, .nil, h => h
  | _, _, _, _, .cons h h', k => .cons h (FzL.app h' k)
/-- A row that grew, told as frozen; its cells told anew. -/
theorem Grow.fzl {σ0 σ : Sig} {s n : Nat} {a : AV} {cs cs' : List AV} (h : Grow σ0 σ s a cs n) (hne : cs ≠ []) (hk : FzL σ σ0 cs cs') : Fz σ σ0 a (.sl cs' n) := by
  rcases h with ⟨_, h, _⟩ | ⟨b, c, rfl, h1, h2, h3⟩
  · exact absurd h hne
  · refine .own h2 h1 ?_
    have : (cs.drop (0 * s)).take (n * s) = cs := by simp [← h3]
    rw [this]
    exact hk
def oppE (f : Fm) : Int := firstE [checkE f, whenE (decide ((200 : Int) ≤ f.nodes.length)) 5]
def oppF' (f : Fm) : Fm := ⟨f.vars, f.nodes.map (shiftN 0) ++ [⟨2, ⟨[], 0⟩, [(f.nodes.length : Int) - 1]⟩]⟩
def fm0 : Fm := ⟨0, []⟩
theorem f65 (hG : Γ 0 = some sortsT) (f : Fm) (hl : Fits f.nodes.length) (hc : ∀ n ∈ f.nodes, NdFit n) : PCalls Tryz.prog Γ 65 [fmA f] (.tup [fmA (if oppE f = 0 then oppF' f else fm0), int (oppE f)]) := by
  refine pcalls (ok65z Γ) fun σ => ?_
  simp only [go_sem, xQ, ↓reduceIte, xA, xM, xL, xT, xE, xN, xP, xR, xS, Tryz.f65]
  intro b2 hb2
  simp only [go_sem, xQ, ↓reduceIte, xA, xM, xL, xT, xE, xN, xP, xR, xS]
  refine dcallB_use (f47 hG f hl hc) rfl ?_
  simp only [go_sem, xQ, ↓reduceIte, xA, xM, xL, xT, xE, xN, xP, xR, xS]
  refine callB_use (f144 _ _) rfl ?_
  simp only [go_sem, xQ, ↓reduceIte, xA, xM, xL, xT, xE, xN, xP, xR, xS]
  refine callB_use (f135 [_, _] (by simp)) rfl ?_
  by_cases h : oppE f = 0
  · have h' := h
    unfold oppE at h'
    obtain ⟨hne, _⟩ := check_ok ((firstE_zero _).1 h' (checkE f) (by simp))
    have hpos : 0 < f.nodes.length := List.length_pos_iff.2 hne
    have hw : IntKind.i64.wrap ((f.nodes.length : Int) - 1) = (f.nodes.length : Int) - 1 := wrap_i64 _ (by omega) (by omega)
    rw [h, if_pos rfl]
    simp only [go_sem, xQ, ↓reduceIte, xA, xM, xL, xT, xE, xN, xP, xR, xS, h']
    refine ⟨4, _, _, f163o f.nodes hl _ (shiftN 0) (fun x hx => dcall_of (f165 x (hc x hx)) rfl), fun a σm hm => ?_⟩
    rcases hm with ⟨_, hn, _⟩ | ⟨bm, c, hbm, rfl, rfl, hlen⟩
    · have := congrArg List.length hn
      rw [rows_length ndC_len, List.length_map, List.length_nil] at this
      omega
    obtain ⟨nm, hbm⟩ := un hbm
    have nm' : ¬ b2 = bm := fun e => nm e.symm
    simp only [go_sem, xQ, ↓reduceIte, xA, xM, xL, xT, xE, xN, xP, xR, xS, nm, nm']
    intro b5 hb5
    obtain ⟨n5m, hb5⟩ := un hb5
    obtain ⟨n52, hb5⟩ := un hb5
    have n5m' : ¬ bm = b5 := fun e => n5m e.symm
    have n52' : ¬ b2 = b5 := fun e => n52 e.symm
    simp only [go_sem, xQ, ↓reduceIte, xA, xM, xL, xT, xE, xN, xP, xR, xS, h', nm, nm', n5m, n5m', n52, n52', hw]
    refine appB_sl (cs := (f.nodes.map (shiftN 0)).flatMap ndC) (m := f.nodes.length) (appT_sl el64 tk216 by216 el64 (by decide) rfl (by decide)) (σ0 := σ) (by repeat (first | exact Drop.refl _ | assumption | refine Drop.upd ?_ (by assumption))) (.inr ⟨bm, c, rfl, hbm, by simp only [go_sem, xQ, ↓reduceIte, xA, xM, xL, xT, xE, xN, xP, xR, xS, n5m'], hlen⟩) rfl rfl (by omega) (fun a' σ2 hD2 hO hG2 => ?_)
    have e2 : σ2 b2 = some (.row [int 0, .v (.slice none 0 0)] 2 1) := by
      rw [hO b2 (fun _ _ _ e => by cases e; exact nm' rfl) (by simp [upd, n52', nm'])]; simp [upd, n52', nm', int]
    have e5 : σ2 b5 = some (.row [int f.vars, .own bm 4 0 f.nodes.length] 2 1) := by
      rw [hO b5 (fun _ _ _ e => by cases e; exact n5m rfl) (by simp [upd])]; simp [upd, int]
    have hc2 := hG2.cellsX
    have ho2 := hG2.oneX
    simp only [go_sem, xQ, ↓reduceIte, xA, xM, xL, xT, xE, xN, xP, xR, xS, e2, e5, hc2, ho2, n52, n52']
    have hG3 := (hG2.updW (hG2.neS e5 (by decide)) (some (.row [int f.vars, a'] 2 1)))
    have e2' : upd σ2 b5 (some (.row [int f.vars, a'] 2 1)) b2 = some (.row [int 0, .v (.slice none 0 0)] 2 1) := by rw [upd_ne _ _ _ _ n52']; exact e2
    have hG4 := hG3.updW (hG3.neS e2' (by decide)) (some (.row [int f.vars, a'] 2 1))
    refine ⟨.tup (.cons (.agg (.cons (.refl _) (.cons ?_ .nil))) (.cons (.refl _) .nil)), (hD2.upd hb5).upd hb2⟩
    have e : slN (oppF' f).nodes = .sl (((f.nodes.map (shiftN 0)).flatMap ndC) ++ [int 2, .sl [] 0, int 0, .sl [int ((f.nodes.length : Int) - 1)] 1]) (f.nodes.length + 1) := by simp [oppF', slN, ndC, slI, int, ints]
    show Fz _ σ a' (slN (oppF' f).nodes)
    rw [e]
    refine Grow.fzl hG4 (by simp) (FzL.app (FzL.refl _) ?_)
    repeat (first | exact FzL.nil | exact FzL.refl _ | refine FzL.cons (by first | exact Fz.refl _ | exact Fz.nil) ?_)
  · have h' := h
    unfold oppE at h'
    rw [if_neg h]
    simp only [go_sem, xQ, ↓reduceIte, xA, xM, xL, xT, xE, xN, xP, xR, xS, h', fm0]
    refine ⟨.tup (.cons (.agg (.cons (.refl _) (.cons .nil .nil))) (.cons (.refl _) .nil)), by repeat (first | exact Drop.refl _ | assumption | refine Drop.upd ?_ (by assumption))⟩
theorem f111 (f : Fm) (hl : Fits f.nodes.length) : PCalls Tryz.prog Γ 111 [fmA f] (fmA f) := by
  refine pcalls (ok111 Γ) fun σ => ?_
  simp only [go_sem, xQ, ↓reduceIte, xA, xM, xL, xT, xE, xN, xP, xR, xS, Tryz.f111]
  intro b2 hb2
  simp only [go_sem, xQ, ↓reduceIte, xA, xM, xL, xT, xE, xN, xP, xR, xS]
  intro bo hbo
  obtain ⟨hne, hbo⟩ := un hbo
  have hne' : ¬ b2 = bo := fun e => hne e.symm
  simp only [go_sem, xQ, ↓reduceIte, xA, xM, xL, xT, xE, xN, xP, xR, xS, hne, hne']
  refine SemC.loopK mixed f.nodes.length (fun k ρ σ' ds => (ds = [] ∧ ρ 10 = slN f.nodes ∧ ρ 11 = int f.nodes.length ∧ ρ 2 = .v (.pointer (some ⟨b2, 0, none⟩)) ∧ ρ 3 = .v (.pointer (some ⟨bo, 0, none⟩)) ∧ ρ 12 = int k ∧ σ' b2 = some (.row [int 0, .v (.slice none 0 0)] 2 1)) ∧ Drop σ' σ ∧
    ∃ a, σ' bo = some (.row [int f.vars, a] 2 1) ∧ Grow σ σ' 4 a ((f.nodes.take k).flatMap ndC) k) (by kernel_rfl) ⟨by simp only [go_sem, xQ, ↓reduceIte, xA, xM, xL, xT, xE, xN, xP, xR, xS, hne, hne'], by repeat (first | exact Drop.refl _ | assumption | refine Drop.upd ?_ (by assumption)), _, by simp only [go_sem, xQ, ↓reduceIte, xA, xM, xL, xT, xE, xN, xP, xR, xS], .nil _ _ _⟩ ?_
  rintro k ρ σ' ds hk ⟨⟨rfl, h10, h11, h2, h3, h12, hs2⟩, hD, a, hso, hG⟩
  rcases get_or_end f.nodes k hk with ⟨x, hx, hlt, hd⟩ | hk
  · simp only [go_sem, xQ, ↓reduceIte, xA, xM, xL, xT, xE, xN, xP, xR, xS, h10, h11, h2, h3, h12, hlt, ↓nd_part hx]
    intro b hb
    have n2 := nn hb hs2
    have no := nn hb hso
    have n2' : ¬ b = b2 := fun e => n2 e.symm
    have no' : ¬ b = bo := fun e => no e.symm
    simp only [go_sem, xQ, ↓reduceIte, xA, xM, xL, xT, xE, xN, xP, xR, xS, h10, h11, h2, h3, h12, hlt, ↓nd_part hx, n2, no, n2', no', hs2, hso]
    refine appB_sl (appT_sl el58 tk138 by138 el58 (by decide) rfl (by decide)) (hD.upd (hD.free hb)) (hG.upd hb) rfl rfl (by omega) (fun a' σ2 hD2 hO hG2 => ?_)
    have e2 : σ2 b2 = some (.row [int 0, .v (.slice none 0 0)] 2 1) := by
      rw [hO b2 (hG.neS hs2 (by decide)) (by simp [upd, n2, hs2])]; simp [upd, n2, hs2]
    have eo : σ2 bo = some (.row [int f.vars, a] 2 1) := by
      rw [hO bo (hG.neS hso (by decide)) (by simp [upd, no, hso])]; simp [upd, no, hso]
    have hc2 := hG2.cellsX
    have ho2 := hG2.oneX
    simp only [go_sem, xQ, ↓reduceIte, xA, xM, xL, xT, xE, xN, xP, xR, xS, h10, h11, h2, h3, h12, e2, eo, hc2, ho2, hne', hlt]
    refine ⟨by rw [wrap_succ _ (by omega)], hD2.upd hbo, a', by simp only [go_sem, xQ, ↓reduceIte, xA, xM, xL, xT, xE, xN, xP, xR, xS, upd_same], ?_⟩
    rw [take_succ hx, List.flatMap_append]
    have := hG2.updW (hG2.neS eo (by decide)) (some (.row [int f.vars, a'] 2 1))
    simpa [ndC, slI, int] using this
  · subst hk
    have ho := hG.oneX
    rw [List.take_length] at hG
    simp only [go_sem, xQ, ↓reduceIte, xA, xM, xL, xT, xE, xN, xP, xR, xS, h10, h11, h2, h3, h12, Nat.lt_irrefl, hs2, hso, hne, ho]
    have hG' := hG.updW (hG.neS hs2 (by decide)) (some (.row [int f.vars, a] 2 1))
    exact ⟨.agg (.cons (.refl _) (.cons (hG'.retP (hD.upd hb2)).1 .nil)), hD.upd hb2⟩
theorem f82 (a b : Tm) (hl : Fits a.coeffs.length) : PCalls Tryz.prog Γ 82 [tmA a, tmA b] (.v (.bool (decide (a = b)))) := by
  refine pcalls (ok82 Γ) fun σ => ?_
  by_cases h : a.const = b.const
  · simp only [go_sem, xQ, ↓reduceIte, xA, xM, xL, xT, xE, xN, xP, xR, xS, Tryz.f82, h]
    refine callB_use (f38 _ _ hl) rfl ?_
    simp only [go_sem, xQ, ↓reduceIte, xA, xM, xL, xT, xE, xN, xP, xR, xS]
    exact retP_eq (by cases a; cases b; simp only at h; subst h; simp)
  · simp only [go_sem, xQ, ↓reduceIte, xA, xM, xL, xT, xE, xN, xP, xR, xS, Tryz.f82, h]
    exact retP_eq (by have : ¬ a = b := fun e => h (by rw [e]); simp [this])
theorem f201 (a b : Nd) (ha : NdFit a) : PCalls Tryz.prog Γ 201 [ndA a, ndA b] (.v (.bool (decide (a = b)))) := by
  refine pcalls (ok201 Γ) fun σ => ?_
  by_cases h : a.kind = b.kind
  · simp only [go_sem, xQ, ↓reduceIte, xA, xM, xL, xT, xE, xN, xP, xR, xS, Tryz.f201, h]
    refine callB_use (f82 a.term b.term ha.1) rfl ?_
    by_cases h2 : a.term = b.term
    · simp only [go_sem, xQ, ↓reduceIte, xA, xM, xL, xT, xE, xN, xP, xR, xS, h2]
      refine callB_use (f38 _ _ ha.2) rfl ?_
      simp only [go_sem, xQ, ↓reduceIte, xA, xM, xL, xT, xE, xN, xP, xR, xS]
      exact retP_eq (by cases a; cases b; simp only at h h2; subst h; subst h2; simp)
    · simp only [go_sem, xQ, ↓reduceIte, xA, xM, xL, xT, xE, xN, xP, xR, xS, h2]
      exact retP_eq (by have : ¬ a = b := fun e => h2 (by rw [e]); simp [this])
  · simp only [go_sem, xQ, ↓reduceIte, xA, xM, xL, xT, xE, xN, xP, xR, xS, Tryz.f201, h]
    exact retP_eq (by have : ¬ a = b := fun e => h (by rw [e]); simp [this])
theorem f110 (a b : Fm) (hl : Fits a.nodes.length) (hc : ∀ n ∈ a.nodes, NdFit n) : PCalls Tryz.prog Γ 110 [fmA a, fmA b] (.v (.bool (decide (a = b)))) := by
  refine pcalls (ok110 Γ) fun σ => ?_
  by_cases hv : a.vars = b.vars
  · by_cases hn : (a.nodes.length : Int) = b.nodes.length
    · simp only [go_sem, xQ, ↓reduceIte, xA, xM, xL, xT, xE, xN, xP, xR, xS, Tryz.f110, hv, hn]
      refine SemC.loopK mixed a.nodes.length (fun k ρ σ' ds => σ' = σ ∧ ds = [] ∧ ρ 2 = .pp (fmC a) 0 ∧ ρ 3 = .pp (fmC b) 0 ∧ ρ 5 = int k ∧ a.nodes.take k = b.nodes.take k) (by kernel_rfl) ⟨rfl, rfl, by simp only [go_sem, xQ, ↓reduceIte, xA, xM, xL, xT, xE, xN, xP, xR, xS, hv, hn], rfl, rfl, rfl⟩ ?_
      rintro k ρ σ' ds hk ⟨rfl, rfl, h2, h3, h5, hz⟩
      rcases get_or_end a.nodes k hk with ⟨x, hx, hlt, hd⟩ | hk
      · rcases get_or_end b.nodes k (by omega) with ⟨y, hy, hlt2, hd2⟩ | hk2
        · simp only [go_sem, xQ, ↓reduceIte, xA, xM, xL, xT, xE, xN, xP, xR, xS, h2, h3, h5, hlt, hlt2, ↓nd_part hx, ↓nd_part hy]
          refine callB_use (f201 x y (hc x (mem_of_get hx))) rfl ?_
          by_cases hxy : x = y
          · simp only [go_sem, xQ, ↓reduceIte, xA, xM, xL, xT, xE, xN, xP, xR, xS, h2, h3, h5, hxy, eq_self_iff_true]
            exact ⟨hlt, by rw [wrap_succ _ (by omega)], by rw [take_succ hx, take_succ hy, hz, hxy]⟩
          · simp only [go_sem, xQ, ↓reduceIte, xA, xM, xL, xT, xE, xN, xP, xR, xS, h2, h3, h5, hxy]
            exact retP_eq (by have : ¬ a = b := fun e => hxy (by rw [e, hy] at hx; exact (Option.some.inj hx).symm); simp [this])
        · omega
      · subst hk
        simp only [go_sem, xQ, ↓reduceIte, xA, xM, xL, xT, xE, xN, xP, xR, xS, h2, h3, h5, Nat.lt_irrefl]
        have he : a.nodes = b.nodes := by
          rw [List.take_length] at hz
          rw [hz, show a.nodes.length = b.nodes.length by omega, List.take_length]
        exact retP_eq (by cases a; cases b; simp only at hv he; subst hv; subst he; simp)
    · simp only [go_sem, xQ, ↓reduceIte, xA, xM, xL, xT, xE, xN, xP, xR, xS, Tryz.f110, hv, hn]
      exact retP_eq (by have : ¬ a = b := fun e => hn (by rw [e]); simp [this])
  · simp only [go_sem, xQ, ↓reduceIte, xA, xM, xL, xT, xE, xN, xP, xR, xS, Tryz.f110, hv]
    exact retP_eq (by have : ¬ a = b := fun e => hv (by rw [e]); simp [this])
end Go.AL
