/- What FormulaPuts asks besides Put: short terms, trials, the check of terms, the comparison of the whole. -/
import Derived.Test.YtjimmpldofoimaaGreatDoorXj
open Nat renaming reduceEqDiff → xQ, reduceAdd → xA, reduceMul → xM, reduceLeDiff → xL
open Int renaming reduceLT → xT, reduceLE → xE, reduceToNat → xN
open Go.AL renaming retPost_one → xP, retPost_oneN → xR, ers_at' → xS
set_option linter.unusedVariables false
set_option linter.unusedSimpArgs false
namespace Go.AL
open Go.Proofs
@[reducible] noncomputable def p52 (Γ : Glob) : Par := par Γ [] [] []
theorem ok52 (Γ : Glob) : FnOk (p52 Γ) 52 19 (Tryz.f52.body.getD .skip) Tryz.f52.results.toList 1 := fnOk (par_mixed _ _ _ _) Tryz.func52 rfl rfl rfl (by kernel_rfl) (Nat.le_of_ble_eq_true rfl) (by kernel_rfl)
@[reducible] noncomputable def p54 (Γ : Glob) : Par := par Γ [5] [] []
theorem ok54 (Γ : Glob) : FnOk (p54 Γ) 54 19 (Tryz.f54.body.getD .skip) Tryz.f54.results.toList 1 := fnOk (par_mixed _ _ _ _) Tryz.func54 rfl rfl rfl (by kernel_rfl) (Nat.le_of_ble_eq_true rfl) (by kernel_rfl)
@[reducible] noncomputable def p55 (Γ : Glob) : Par := par Γ [] [] [(6, [0, 0, 3, 7, 0, 16, 48, 112, 240, 511, 1023])]
theorem ok55 (Γ : Glob) : FnOk (p55 Γ) 55 30 (Tryz.f55.body.getD .skip) Tryz.f55.results.toList 2 := fnOk (par_mixed _ _ _ _) Tryz.func55 rfl rfl rfl (by kernel_rfl) (Nat.le_of_ble_eq_true rfl) (by kernel_rfl)
@[reducible] noncomputable def p57 (Γ : Glob) : Par := par Γ [7] [(3, [false, true])] [(3, [0, 1, 0, 7, 15, 31, 31, 127, 255, 511])]
theorem ok57 (Γ : Glob) : FnOk (p57 Γ) 57 21 (Tryz.f57.body.getD .skip) Tryz.f57.results.toList 4 := fnOk (par_mixed _ _ _ _) Tryz.func57 rfl rfl rfl (by kernel_rfl) (Nat.le_of_ble_eq_true rfl) (by kernel_rfl)
variable {Γ : Glob}
attribute [local irreducible] codeW opsW dopsW
end Go.AL

/- What FormulaJoins asks: Always of the library. -/
set_option linter.unusedVariables false
set_option linter.unusedSimpArgs false
namespace Go.AL
open Go.Proofs
@[reducible] noncomputable def p66 (Γ : Glob) : Par := par Γ [2] [] []
theorem ok66 (Γ : Glob) : FnOk (p66 Γ) 66 15 (Tryz.f66.body.getD .skip) Tryz.f66.results.toList 1 := fnOk (par_mixed _ _ _ _) Tryz.func66 rfl rfl rfl (by kernel_rfl) (Nat.le_of_ble_eq_true rfl) (by kernel_rfl)
@[reducible] noncomputable def p164 (Γ : Glob) : Par := par Γ [2] [] []
theorem ok164 (Γ : Glob) : FnOk (p164 Γ) 164 5 (Tryz.f164.body.getD .skip) Tryz.f164.results.toList 1 := fnOk (par_mixed _ _ _ _) Tryz.func164 rfl rfl rfl (by kernel_rfl) (Nat.le_of_ble_eq_true rfl) (by kernel_rfl)
variable {Γ : Glob}
attribute [local irreducible] codeW opsW dopsW
theorem f164 (x : Nd) (hx : NdFit x) : PCalls Tryz.prog Γ 164 [ndA x] (ndA (shiftN 0 x)) := by
  refine pcalls (ok164 Γ) fun σ => ?_
  simp only [go_sem, xQ, ↓reduceIte, xA, xM, xL, xT, xE, xN, xP, xR, xS, Tryz.f164]
  intro b hb
  simp only [go_sem, xQ, ↓reduceIte, xA, xM, xL, xT, xE, xN, xP, xR, xS]
  refine callB_use (f156 x 0 hx) rfl ?_
  simp only [go_sem, xQ, ↓reduceIte, xA, xM, xL, xT, xE, xN, xP, xR, xS]
  exact retP_drop (by repeat (first | exact Drop.refl _ | assumption | refine Drop.upd ?_ (by assumption))) (rfl)
@[reducible] noncomputable def p64z (Γ : Glob) : Par := par Γ [6, 10, 12, 52] [(1, [false, false, false, false, false, false, true, false, true, false, true, false, false, false, false, false, true]), (5, [false, true]), (9, [false, false, false, false, true])] [(1, [0, 1, 3, 7, 15, 31, 63, 0, 255, 0, 1023, 0, 2048, 0, 8192, 30720, 65535, 0, 131072, 393216, 0, 1048576, 3145728, 8257536, 16646144, 33554431, 67108863, 134217727, 268435455]), (5, [0, 1, 0, 4, 12, 31, 0, 127]), (9, [0, 1, 0, 0, 12, 28, 63, 127, 255])]
theorem ok64z (Γ : Glob) : FnOk (p64z Γ) 64 85 (Tryz.f64.body.getD .skip) Tryz.f64.results.toList 3 := fnOk (par_mixed _ _ _ _) Tryz.func64 rfl rfl rfl (by kernel_rfl) (Nat.le_of_ble_eq_true rfl) (by kernel_rfl)
def joinE (op : Int) (f g : Fm) : Int := firstE [whenE (!decide (op = 3) && !decide (op = 4)) 11, checkE f, checkE g, whenE (!decide (f.vars = g.vars)) 2, whenE (decide ((200 : Int) ≤ f.nodes.length + g.nodes.length)) 5]
def joinF (op : Int) (f g : Fm) : Fm := ⟨f.vars, f.nodes.map (shiftN 0) ++ g.nodes.map (shiftN f.nodes.length) ++ [⟨op, ⟨[], 0⟩, [(f.nodes.length : Int) - 1, (f.nodes.length : Int) + g.nodes.length - 1]⟩]⟩
set_option maxHeartbeats 2000000 in
theorem f64 (hG : Γ 0 = some sortsT) (op : Int) (f g : Fm) (hl : f.nodes.length ≤ 1000000) (hc : ∀ n ∈ f.nodes, NdFit n) (hl2 : g.nodes.length ≤ 1000000) (hc2 : ∀ n ∈ g.nodes, NdFit n) : PCalls Tryz.prog Γ 64 [int op, fmA f, fmA g] (.tup [fmA (if joinE op f g = 0 then joinF op f g else fm0), int (joinE op f g)]) := by
  have hw1 : IntKind.i64.wrap ((f.nodes.length : Int) + g.nodes.length) = (f.nodes.length : Int) + g.nodes.length := wrap_i64 _ (by omega) (by omega)
  have q34 : ((3 : Int) = 4) = False := eq_false (by decide)
  have q43 : ((4 : Int) = 3) = False := eq_false (by decide)
  have hJe : ∀ w, w = (!decide (op = 3) && !decide (op = 4)) → firstE [whenE w 11, checkE f, checkE g, whenE (!decide (f.vars = g.vars)) 2, whenE (decide ((200 : Int) ≤ f.nodes.length + g.nodes.length)) 5] = joinE op f g := fun w e => by rw [e]; rfl
  by_cases h : joinE op f g = 0
  · rw [h, if_pos rfl]
    refine pcalls (ok64z Γ) fun σ => ?_
    by_cases h3 : op = 3
    · subst h3
      have hJ := hJe false (by decide)
      simp only [go_sem, xQ, ↓reduceIte, xA, xM, xL, xT, xE, xN, xP, xR, xS, Tryz.f64]
      intro b2 hb2
      simp only [go_sem, xQ, ↓reduceIte, xA, xM, xL, xT, xE, xN, xP, xR, xS]
      refine dcallB_use (f144 _ _) rfl ?_
      simp only [go_sem, xQ, ↓reduceIte, xA, xM, xL, xT, xE, xN, xP, xR, xS, eq_self_iff_true]
      refine dcallB_use (f47 hG f (by omega) hc) rfl ?_
      simp only [go_sem, xQ, ↓reduceIte, xA, xM, xL, xT, xE, xN, xP, xR, xS, eq_self_iff_true]
      refine dcallB_use (f47 hG g (by omega) hc2) rfl ?_
      simp only [go_sem, xQ, ↓reduceIte, xA, xM, xL, xT, xE, xN, xP, xR, xS, eq_self_iff_true]
      refine dcallB_use (f144 _ _) rfl ?_
      simp only [go_sem, xQ, ↓reduceIte, xA, xM, xL, xT, xE, xN, xP, xR, xS, eq_self_iff_true, hw1]
      refine callB_use (f144 _ _) rfl ?_
      simp only [go_sem, xQ, ↓reduceIte, xA, xM, xL, xT, xE, xN, xP, xR, xS, eq_self_iff_true, hw1]
      refine callB_use (f135 [whenE false 11, checkE f, checkE g, whenE (!decide (f.vars = g.vars)) 2, whenE (decide ((200 : Int) ≤ f.nodes.length + g.nodes.length)) 5] (by simp)) rfl ?_
      simp only [go_sem, xQ, ↓reduceIte, xA, xM, xL, xT, xE, xN, xP, xR, xS, eq_self_iff_true]
      simp only [go_sem, xQ, ↓reduceIte, xA, xM, xL, xT, xE, xN, xP, xR, xS, hJ, h]
      refine ⟨4, _, _, f163o f.nodes (by omega) _ (shiftN 0) (fun x hx => dcall_of (f164 x (hc x hx)) rfl), fun a σm hm => ?_⟩
      have hlp : 0 < f.nodes.length := List.length_pos_iff.2 (check_ok ((firstE_zero _).1 h (checkE f) (by simp))).1
      rcases hm with ⟨_, hn, _⟩ | ⟨bm, c, hbm, rfl, rfl, hlen⟩
      · have := congrArg List.length hn
        rw [rows_length ndC_len, List.length_map, List.length_nil] at this
        omega
      obtain ⟨nm, hbm⟩ := un hbm
      have nm' : ¬ b2 = bm := fun e => nm e.symm
      simp only [go_sem, xQ, ↓reduceIte, xA, xM, xL, xT, xE, xN, xP, xR, xS, nm, nm']
      intro b5 hb5
      obtain ⟨n5m, hb5⟩ := un hb5
      obtain ⟨n52, hb5⟩ := un hb5
      have n5m' : ¬ bm = b5 := fun e => n5m e.symm
      have n52' : ¬ b2 = b5 := fun e => n52 e.symm
      simp only [go_sem, xQ, ↓reduceIte, xA, xM, xL, xT, xE, xN, xP, xR, xS, nm, nm', n5m, n5m', n52, n52']
      refine SemC.loopK mixed g.nodes.length (fun k ρ σ' ds => (ds = [] ∧ ρ 0 = int 3 ∧ ρ 6 = .v (.pointer (some ⟨b2, 0, none⟩)) ∧ ρ 9 = int f.nodes.length ∧ ρ 10 = .v (.pointer (some ⟨b5, 0, none⟩)) ∧ ρ 55 = slN g.nodes ∧ ρ 56 = int g.nodes.length ∧ ρ 57 = int k ∧ σ' b2 = some (.row [int 0, .v (.slice none 0 0)] 2 1)) ∧ Drop σ' σ ∧
        ∃ a, σ' b5 = some (.row [int f.vars, a] 2 1) ∧ Grow σ σ' 4 a ((f.nodes.map (shiftN 0) ++ (g.nodes.take k).map (shiftN f.nodes.length)).flatMap ndC) (f.nodes.length + k)) (by kernel_rfl) ⟨by simp only [go_sem, xQ, ↓reduceIte, xA, xM, xL, xT, xE, xN, xP, xR, xS, nm, nm', n5m, n5m', n52, n52'], by repeat (first | exact Drop.refl _ | assumption | refine Drop.upd ?_ (by assumption)), _, by simp only [go_sem, xQ, ↓reduceIte, xA, xM, xL, xT, xE, xN, xP, xR, xS], .inr ⟨bm, c, rfl, hbm, by simp [upd, n5m', int], by simpa using hlen⟩⟩ ?_
      rintro k ρ σ' ds hk ⟨⟨rfl, h0, h6, h9, h10, h55, h56, h57, hs2⟩, hD, a, hs5, hG⟩
      rcases get_or_end g.nodes k hk with ⟨x, hx, hlt, hd⟩ | hk
      · simp only [go_sem, xQ, ↓reduceIte, xA, xM, xL, xT, xE, xN, xP, xR, xS, h0, h6, h9, h10, h55, h56, h57, hlt, ↓nd_part hx]
        intro b hb
        have n2 := nn hb hs2
        have n5 := nn hb hs5
        have n2' : ¬ b = b2 := fun e => n2 e.symm
        have n5' : ¬ b = b5 := fun e => n5 e.symm
        simp only [go_sem, xQ, ↓reduceIte, xA, xM, xL, xT, xE, xN, xP, xR, xS, h0, h6, h9, h10, h55, h56, h57, hlt, ↓nd_part hx, n2, n5, n2', n5', hs2, hs5]
        refine dcallB_use (f156 x f.nodes.length (hc2 x (mem_of_get hx))) rfl ?_
        simp only [go_sem, xQ, ↓reduceIte, xA, xM, xL, xT, xE, xN, xP, xR, xS, h0, h6, h9, h10, h55, h56, h57, n2, n5, n2', n5', hs2, hs5]
        refine appB_sl (appT_sl el64 tk216 by216 el64 (by decide) rfl (by decide)) (hD.upd (hD.free hb)) (hG.upd hb) rfl rfl (by omega) (fun a' σ2 hD2 hO hG2 => ?_)
        have e2 : σ2 b2 = some (.row [int 0, .v (.slice none 0 0)] 2 1) := by
          rw [hO b2 (hG.neS hs2 (by decide)) (by simp [upd, n2, hs2])]; simp [upd, n2, hs2]
        have e5 : σ2 b5 = some (.row [int f.vars, a] 2 1) := by
          rw [hO b5 (hG.neS hs5 (by decide)) (by simp [upd, n5, hs5])]; simp [upd, n5, hs5]
        have hcx := hG2.cellsX
        have hox := hG2.oneX
        simp only [go_sem, xQ, ↓reduceIte, xA, xM, xL, xT, xE, xN, xP, xR, xS, h0, h6, h9, h10, h55, h56, h57, e2, e5, hcx, hox, n52, n52', hlt]
        refine ⟨by rw [wrap_succ _ (by omega)], hD2.upd hb5, a', by simp only [go_sem, xQ, ↓reduceIte, xA, xM, xL, xT, xE, xN, xP, xR, xS, upd_same], ?_⟩
        rw [take_succ hx, List.map_append, ← List.append_assoc, List.flatMap_append]
        have := hG2.updW (hG2.neS e5 (by decide)) (some (.row [int f.vars, a'] 2 1))
        simpa [ndC, slI, int, Nat.add_assoc] using this
      · subst hk
        rw [List.take_length] at hG
        have hlg : f.nodes.length + g.nodes.length < 200 := by
          have := (firstE_zero _).1 h (whenE (decide ((200 : Int) ≤ f.nodes.length + g.nodes.length)) 5) (by simp)
          have := (whenE_zero (by decide)).1 this
          simp at this
          omega
        have hne : (f.nodes.map (shiftN 0) ++ g.nodes.map (shiftN f.nodes.length)).flatMap ndC ≠ [] := fun e => by
          have := congrArg List.length e
          rw [rows_length ndC_len, List.length_append, List.length_map, List.length_nil] at this
          omega
        obtain ⟨ba, ca, ea, hba⟩ := hG.own_of hne
        have hwa : IntKind.i64.wrap ((f.nodes.length : Int) - 1) = (f.nodes.length : Int) - 1 := wrap_i64 _ (by omega) (by omega)
        have hwb : IntKind.i64.wrap (((f.nodes.length + g.nodes.length : Nat) : Int) - 1) = (f.nodes.length : Int) + g.nodes.length - 1 := by rw [wrap_i64 _ (by omega) (by omega)]; omega
        have hs5' := hs5
        rw [ea] at hs5'
        simp only [go_sem, xQ, ↓reduceIte, xA, xM, xL, xT, xE, xN, xP, xR, xS, h0, h6, h9, h10, h55, h56, h57, Nat.lt_irrefl, hs2, hs5', hwa, hwb]
        rw [← ea]
        refine appB_sl (appT_sl el64 tk216 by216 el64 (by decide) rfl (by decide)) hD hG rfl rfl (by omega) (fun a' σ2 hD2 hO hG2 => ?_)
        have e2 : σ2 b2 = some (.row [int 0, .v (.slice none 0 0)] 2 1) := by
          rw [hO b2 (hG.neS hs2 (by decide)) (by simp [hs2]), hs2]
        have e5 : σ2 b5 = some (.row [int f.vars, a] 2 1) := by
          rw [hO b5 (hG.neS hs5 (by decide)) (by simp [hs5]), hs5]
        have hcx := hG2.cellsX
        have hox := hG2.oneX
        simp only [go_sem, xQ, ↓reduceIte, xA, xM, xL, xT, xE, xN, xP, xR, xS, h0, h6, h9, h10, h55, h56, h57, e2, e5, hcx, hox, n52, n52']
        have hG3 := (hG2.updW (hG2.neS e5 (by decide)) (some (.row [int f.vars, a'] 2 1)))
        have e2' : upd σ2 b5 (some (.row [int f.vars, a'] 2 1)) b2 = some (.row [int 0, .v (.slice none 0 0)] 2 1) := by rw [upd_ne _ _ _ _ n52']; exact e2
        have hG4 := hG3.updW (hG3.neS e2' (by decide)) (some (.row [int f.vars, a'] 2 1))
        refine ⟨.tup (.cons (.agg (.cons (.refl _) (.cons ?_ .nil))) (.cons (.refl _) .nil)), (hD2.upd hb5).upd hb2⟩
        have e : slN (joinF 3 f g).nodes = .sl (((f.nodes.map (shiftN 0) ++ g.nodes.map (shiftN f.nodes.length)).flatMap ndC) ++ [int 3, .sl [] 0, int 0, .sl [int ((f.nodes.length : Int) - 1), int ((f.nodes.length : Int) + g.nodes.length - 1)] 2]) (f.nodes.length + g.nodes.length + 1) := by simp [joinF, slN, ndC, slI, int, ints, Nat.add_assoc]
        show Fz _ σ a' (slN (joinF 3 f g).nodes)
        rw [e]
        refine Grow.fzl hG4 (by simp) (FzL.app (FzL.refl _) ?_)
        exact .cons (.refl _) (.cons .nil (.cons (.refl _) (.cons (.refl _) .nil)))
    · by_cases h4 : op = 4
      · subst h4
        have hJ := hJe false (by decide)
        simp only [go_sem, xQ, ↓reduceIte, xA, xM, xL, xT, xE, xN, xP, xR, xS, Tryz.f64, q43]
        intro b2 hb2
        simp only [go_sem, xQ, ↓reduceIte, xA, xM, xL, xT, xE, xN, xP, xR, xS, q43]
        refine dcallB_use (f144 _ _) rfl ?_
        simp only [go_sem, xQ, ↓reduceIte, xA, xM, xL, xT, xE, xN, xP, xR, xS, q43]
        refine dcallB_use (f47 hG f (by omega) hc) rfl ?_
        simp only [go_sem, xQ, ↓reduceIte, xA, xM, xL, xT, xE, xN, xP, xR, xS, q43]
        refine dcallB_use (f47 hG g (by omega) hc2) rfl ?_
        simp only [go_sem, xQ, ↓reduceIte, xA, xM, xL, xT, xE, xN, xP, xR, xS, q43]
        refine dcallB_use (f144 _ _) rfl ?_
        simp only [go_sem, xQ, ↓reduceIte, xA, xM, xL, xT, xE, xN, xP, xR, xS, q43, hw1]
        refine callB_use (f144 _ _) rfl ?_
        simp only [go_sem, xQ, ↓reduceIte, xA, xM, xL, xT, xE, xN, xP, xR, xS, q43, hw1]
        refine callB_use (f135 [whenE false 11, checkE f, checkE g, whenE (!decide (f.vars = g.vars)) 2, whenE (decide ((200 : Int) ≤ f.nodes.length + g.nodes.length)) 5] (by simp)) rfl ?_
        simp only [go_sem, xQ, ↓reduceIte, xA, xM, xL, xT, xE, xN, xP, xR, xS, q43]
        simp only [go_sem, xQ, ↓reduceIte, xA, xM, xL, xT, xE, xN, xP, xR, xS, hJ, h]
        refine ⟨4, _, _, f163o f.nodes (by omega) _ (shiftN 0) (fun x hx => dcall_of (f164 x (hc x hx)) rfl), fun a σm hm => ?_⟩
        have hlp : 0 < f.nodes.length := List.length_pos_iff.2 (check_ok ((firstE_zero _).1 h (checkE f) (by simp))).1
        rcases hm with ⟨_, hn, _⟩ | ⟨bm, c, hbm, rfl, rfl, hlen⟩
        · have := congrArg List.length hn
          rw [rows_length ndC_len, List.length_map, List.length_nil] at this
          omega
        obtain ⟨nm, hbm⟩ := un hbm
        have nm' : ¬ b2 = bm := fun e => nm e.symm
        simp only [go_sem, xQ, ↓reduceIte, xA, xM, xL, xT, xE, xN, xP, xR, xS, nm, nm']
        intro b5 hb5
        obtain ⟨n5m, hb5⟩ := un hb5
        obtain ⟨n52, hb5⟩ := un hb5
        have n5m' : ¬ bm = b5 := fun e => n5m e.symm
        have n52' : ¬ b2 = b5 := fun e => n52 e.symm
        simp only [go_sem, xQ, ↓reduceIte, xA, xM, xL, xT, xE, xN, xP, xR, xS, nm, nm', n5m, n5m', n52, n52']
        refine SemC.loopK mixed g.nodes.length (fun k ρ σ' ds => (ds = [] ∧ ρ 0 = int 4 ∧ ρ 6 = .v (.pointer (some ⟨b2, 0, none⟩)) ∧ ρ 9 = int f.nodes.length ∧ ρ 10 = .v (.pointer (some ⟨b5, 0, none⟩)) ∧ ρ 55 = slN g.nodes ∧ ρ 56 = int g.nodes.length ∧ ρ 57 = int k ∧ σ' b2 = some (.row [int 0, .v (.slice none 0 0)] 2 1)) ∧ Drop σ' σ ∧
          ∃ a, σ' b5 = some (.row [int f.vars, a] 2 1) ∧ Grow σ σ' 4 a ((f.nodes.map (shiftN 0) ++ (g.nodes.take k).map (shiftN f.nodes.length)).flatMap ndC) (f.nodes.length + k)) (by kernel_rfl) ⟨by simp only [go_sem, xQ, ↓reduceIte, xA, xM, xL, xT, xE, xN, xP, xR, xS, nm, nm', n5m, n5m', n52, n52'], by repeat (first | exact Drop.refl _ | assumption | refine Drop.upd ?_ (by assumption)), _, by simp only [go_sem, xQ, ↓reduceIte, xA, xM, xL, xT, xE, xN, xP, xR, xS], .inr ⟨bm, c, rfl, hbm, by simp [upd, n5m', int], by simpa using hlen⟩⟩ ?_
        rintro k ρ σ' ds hk ⟨⟨rfl, h0, h6, h9, h10, h55, h56, h57, hs2⟩, hD, a, hs5, hG⟩
        rcases get_or_end g.nodes k hk with ⟨x, hx, hlt, hd⟩ | hk
        · simp only [go_sem, xQ, ↓reduceIte, xA, xM, xL, xT, xE, xN, xP, xR, xS, h0, h6, h9, h10, h55, h56, h57, hlt, ↓nd_part hx]
          intro b hb
          have n2 := nn hb hs2
          have n5 := nn hb hs5
          have n2' : ¬ b = b2 := fun e => n2 e.symm
          have n5' : ¬ b = b5 := fun e => n5 e.symm
          simp only [go_sem, xQ, ↓reduceIte, xA, xM, xL, xT, xE, xN, xP, xR, xS, h0, h6, h9, h10, h55, h56, h57, hlt, ↓nd_part hx, n2, n5, n2', n5', hs2, hs5]
          refine dcallB_use (f156 x f.nodes.length (hc2 x (mem_of_get hx))) rfl ?_
          simp only [go_sem, xQ, ↓reduceIte, xA, xM, xL, xT, xE, xN, xP, xR, xS, h0, h6, h9, h10, h55, h56, h57, n2, n5, n2', n5', hs2, hs5]
          refine appB_sl (appT_sl el64 tk216 by216 el64 (by decide) rfl (by decide)) (hD.upd (hD.free hb)) (hG.upd hb) rfl rfl (by omega) (fun a' σ2 hD2 hO hG2 => ?_)
          have e2 : σ2 b2 = some (.row [int 0, .v (.slice none 0 0)] 2 1) := by
            rw [hO b2 (hG.neS hs2 (by decide)) (by simp [upd, n2, hs2])]; simp [upd, n2, hs2]
          have e5 : σ2 b5 = some (.row [int f.vars, a] 2 1) := by
            rw [hO b5 (hG.neS hs5 (by decide)) (by simp [upd, n5, hs5])]; simp [upd, n5, hs5]
          have hcx := hG2.cellsX
          have hox := hG2.oneX
          simp only [go_sem, xQ, ↓reduceIte, xA, xM, xL, xT, xE, xN, xP, xR, xS, h0, h6, h9, h10, h55, h56, h57, e2, e5, hcx, hox, n52, n52', hlt]
          refine ⟨by rw [wrap_succ _ (by omega)], hD2.upd hb5, a', by simp only [go_sem, xQ, ↓reduceIte, xA, xM, xL, xT, xE, xN, xP, xR, xS, upd_same], ?_⟩
          rw [take_succ hx, List.map_append, ← List.append_assoc, List.flatMap_append]
          have := hG2.updW (hG2.neS e5 (by decide)) (some (.row [int f.vars, a'] 2 1))
          simpa [ndC, slI, int, Nat.add_assoc] using this
        · subst hk
          rw [List.take_length] at hG
          have hlg : f.nodes.length + g.nodes.length < 200 := by
            have := (firstE_zero _).1 h (whenE (decide ((200 : Int) ≤ f.nodes.length + g.nodes.length)) 5) (by simp)
            have := (whenE_zero (by decide)).1 this
            simp at this
            omega
          have hne : (f.nodes.map (shiftN 0) ++ g.nodes.map (shiftN f.nodes.length)).flatMap ndC ≠ [] := fun e => by
            have := congrArg List.length e
            rw [rows_length ndC_len, List.length_append, List.length_map, List.length_nil] at this
            omega
          obtain ⟨ba, ca, ea, hba⟩ := hG.own_of hne
          have hwa : IntKind.i64.wrap ((f.nodes.length : Int) - 1) = (f.nodes.length : Int) - 1 := wrap_i64 _ (by omega) (by omega)
          have hwb : IntKind.i64.wrap (((f.nodes.length + g.nodes.length : Nat) : Int) - 1) = (f.nodes.length : Int) + g.nodes.length - 1 := by rw [wrap_i64 _ (by omega) (by omega)]; omega
          have hs5' := hs5
          rw [ea] at hs5'
          simp only [go_sem, xQ, ↓reduceIte, xA, xM, xL, xT, xE, xN, xP, xR, xS, h0, h6, h9, h10, h55, h56, h57, Nat.lt_irrefl, hs2, hs5', hwa, hwb]
          rw [← ea]
          refine appB_sl (appT_sl el64 tk216 by216 el64 (by decide) rfl (by decide)) hD hG rfl rfl (by omega) (fun a' σ2 hD2 hO hG2 => ?_)
          have e2 : σ2 b2 = some (.row [int 0, .v (.slice none 0 0)] 2 1) := by
            rw [hO b2 (hG.neS hs2 (by decide)) (by simp [hs2]), hs2]
          have e5 : σ2 b5 = some (.row [int f.vars, a] 2 1) := by
            rw [hO b5 (hG.neS hs5 (by decide)) (by simp [hs5]), hs5]
          have hcx := hG2.cellsX
          have hox := hG2.oneX
          simp only [go_sem, xQ, ↓reduceIte, xA, xM, xL, xT, xE, xN, xP, xR, xS, h0, h6, h9, h10, h55, h56, h57, e2, e5, hcx, hox, n52, n52']
          have hG3 := (hG2.updW (hG2.neS e5 (by decide)) (some (.row [int f.vars, a'] 2 1)))
          have e2' : upd σ2 b5 (some (.row [int f.vars, a'] 2 1)) b2 = some (.row [int 0, .v (.slice none 0 0)] 2 1) := by rw [upd_ne _ _ _ _ n52']; exact e2
          have hG4 := hG3.updW (hG3.neS e2' (by decide)) (some (.row [int f.vars, a'] 2 1))
          refine ⟨.tup (.cons (.agg (.cons (.refl _) (.cons ?_ .nil))) (.cons (.refl _) .nil)), (hD2.upd hb5).upd hb2⟩
          have e : slN (joinF 4 f g).nodes = .sl (((f.nodes.map (shiftN 0) ++ g.nodes.map (shiftN f.nodes.length)).flatMap ndC) ++ [int 4, .sl [] 0, int 0, .sl [int ((f.nodes.length : Int) - 1), int ((f.nodes.length : Int) + g.nodes.length - 1)] 2]) (f.nodes.length + g.nodes.length + 1) := by simp [joinF, slN, ndC, slI, int, ints, Nat.add_assoc]
          show Fz _ σ a' (slN (joinF 4 f g).nodes)
          rw [e]
          refine Grow.fzl hG4 (by simp) (FzL.app (FzL.refl _) ?_)
          exact .cons (.refl _) (.cons .nil (.cons (.refl _) (.cons (.refl _) .nil)))
      · exfalso
        have := (firstE_zero _).1 h (whenE (!decide (op = 3) && !decide (op = 4)) 11) (by simp)
        have := (whenE_zero (by decide)).1 this
        simp [h3, h4] at this
  · rw [if_neg h]
    refine pcalls (ok64z Γ) fun σ => ?_
    by_cases h3 : op = 3
    · subst h3
      have hJ := hJe false (by decide)
      simp only [go_sem, xQ, ↓reduceIte, xA, xM, xL, xT, xE, xN, xP, xR, xS, Tryz.f64]
      intro b2 hb2
      simp only [go_sem, xQ, ↓reduceIte, xA, xM, xL, xT, xE, xN, xP, xR, xS]
      refine dcallB_use (f144 _ _) rfl ?_
      simp only [go_sem, xQ, ↓reduceIte, xA, xM, xL, xT, xE, xN, xP, xR, xS, eq_self_iff_true]
      refine dcallB_use (f47 hG f (by omega) hc) rfl ?_
      simp only [go_sem, xQ, ↓reduceIte, xA, xM, xL, xT, xE, xN, xP, xR, xS, eq_self_iff_true]
      refine dcallB_use (f47 hG g (by omega) hc2) rfl ?_
      simp only [go_sem, xQ, ↓reduceIte, xA, xM, xL, xT, xE, xN, xP, xR, xS, eq_self_iff_true]
      refine dcallB_use (f144 _ _) rfl ?_
      simp only [go_sem, xQ, ↓reduceIte, xA, xM, xL, xT, xE, xN, xP, xR, xS, eq_self_iff_true, hw1]
      refine callB_use (f144 _ _) rfl ?_
      simp only [go_sem, xQ, ↓reduceIte, xA, xM, xL, xT, xE, xN, xP, xR, xS, eq_self_iff_true, hw1]
      refine callB_use (f135 [whenE false 11, checkE f, checkE g, whenE (!decide (f.vars = g.vars)) 2, whenE (decide ((200 : Int) ≤ f.nodes.length + g.nodes.length)) 5] (by simp)) rfl ?_
      simp only [go_sem, xQ, ↓reduceIte, xA, xM, xL, xT, xE, xN, xP, xR, xS, eq_self_iff_true]
      simp only [go_sem, xQ, ↓reduceIte, xA, xM, xL, xT, xE, xN, xP, xR, xS, hJ, h, fm0]
      exact ⟨.tup (.cons (.agg (.cons (.refl _) (.cons .nil .nil))) (.cons (.refl _) .nil)), by repeat (first | exact Drop.refl _ | assumption | refine Drop.upd ?_ (by assumption))⟩
    · by_cases h4 : op = 4
      · subst h4
        have hJ := hJe false (by decide)
        simp only [go_sem, xQ, ↓reduceIte, xA, xM, xL, xT, xE, xN, xP, xR, xS, Tryz.f64, q43]
        intro b2 hb2
        simp only [go_sem, xQ, ↓reduceIte, xA, xM, xL, xT, xE, xN, xP, xR, xS, q43]
        refine dcallB_use (f144 _ _) rfl ?_
        simp only [go_sem, xQ, ↓reduceIte, xA, xM, xL, xT, xE, xN, xP, xR, xS, q43]
        refine dcallB_use (f47 hG f (by omega) hc) rfl ?_
        simp only [go_sem, xQ, ↓reduceIte, xA, xM, xL, xT, xE, xN, xP, xR, xS, q43]
        refine dcallB_use (f47 hG g (by omega) hc2) rfl ?_
        simp only [go_sem, xQ, ↓reduceIte, xA, xM, xL, xT, xE, xN, xP, xR, xS, q43]
        refine dcallB_use (f144 _ _) rfl ?_
        simp only [go_sem, xQ, ↓reduceIte, xA, xM, xL, xT, xE, xN, xP, xR, xS, q43, hw1]
        refine callB_use (f144 _ _) rfl ?_
        simp only [go_sem, xQ, ↓reduceIte, xA, xM, xL, xT, xE, xN, xP, xR, xS, q43, hw1]
        refine callB_use (f135 [whenE false 11, checkE f, checkE g, whenE (!decide (f.vars = g.vars)) 2, whenE (decide ((200 : Int) ≤ f.nodes.length + g.nodes.length)) 5] (by simp)) rfl ?_
        simp only [go_sem, xQ, ↓reduceIte, xA, xM, xL, xT, xE, xN, xP, xR, xS, q43]
        simp only [go_sem, xQ, ↓reduceIte, xA, xM, xL, xT, xE, xN, xP, xR, xS, hJ, h, fm0]
        exact ⟨.tup (.cons (.agg (.cons (.refl _) (.cons .nil .nil))) (.cons (.refl _) .nil)), by repeat (first | exact Drop.refl _ | assumption | refine Drop.upd ?_ (by assumption))⟩
      · have hJ := hJe true (by simp [h3, h4])
        simp only [go_sem, xQ, ↓reduceIte, xA, xM, xL, xT, xE, xN, xP, xR, xS, Tryz.f64, h3, h4]
        intro b2 hb2
        simp only [go_sem, xQ, ↓reduceIte, xA, xM, xL, xT, xE, xN, xP, xR, xS, h3, h4]
        refine dcallB_use (f144 _ _) rfl ?_
        simp only [go_sem, xQ, ↓reduceIte, xA, xM, xL, xT, xE, xN, xP, xR, xS, h3, h4]
        refine dcallB_use (f47 hG f (by omega) hc) rfl ?_
        simp only [go_sem, xQ, ↓reduceIte, xA, xM, xL, xT, xE, xN, xP, xR, xS, h3, h4]
        refine dcallB_use (f47 hG g (by omega) hc2) rfl ?_
        simp only [go_sem, xQ, ↓reduceIte, xA, xM, xL, xT, xE, xN, xP, xR, xS, h3, h4]
        refine dcallB_use (f144 _ _) rfl ?_
        simp only [go_sem, xQ, ↓reduceIte, xA, xM, xL, xT, xE, xN, xP, xR, xS, h3, h4, hw1]
        refine callB_use (f144 _ _) rfl ?_
        simp only [go_sem, xQ, ↓reduceIte, xA, xM, xL, xT, xE, xN, xP, xR, xS, h3, h4, hw1]
        refine callB_use (f135 [whenE true 11, checkE f, checkE g, whenE (!decide (f.vars = g.vars)) 2, whenE (decide ((200 : Int) ≤ f.nodes.length + g.nodes.length)) 5] (by simp)) rfl ?_
        simp only [go_sem, xQ, ↓reduceIte, xA, xM, xL, xT, xE, xN, xP, xR, xS, h3, h4]
        simp only [go_sem, xQ, ↓reduceIte, xA, xM, xL, xT, xE, xN, xP, xR, xS, hJ, h, fm0]
        exact ⟨.tup (.cons (.agg (.cons (.refl _) (.cons .nil .nil))) (.cons (.refl _) .nil)), by repeat (first | exact Drop.refl _ | assumption | refine Drop.upd ?_ (by assumption))⟩
end Go.AL
