/- The question as the library gets it (given), and what a formula's nodes hold in the reference (Truths, Holds). -/
import Derived.Test.YtjimmpldofoimaaGreatDoorXg
open Nat renaming reduceEqDiff → xQ, reduceAdd → xA, reduceMul → xM, reduceLeDiff → xL
open Int renaming reduceLT → xT, reduceLE → xE, reduceToNat → xN
open Go.AL renaming retPost_one → xP, retPost_oneN → xR, ers_at' → xS
set_option linter.unusedVariables false
set_option linter.unusedSimpArgs false
namespace Go.AL
open Go.Proofs
@[reducible] noncomputable def p46 (Γ : Glob) : Par := par Γ [] [(1, [false, false, true])] [(1, [0, 0, 3, 0, 8, 24, 56, 127, 255, 511])]
theorem ok46 (Γ : Glob) : FnOk (p46 Γ) 46 14 (Tryz.f46.body.getD .skip) Tryz.f46.results.toList 2 := fnOk (par_mixed _ _ _ _) Tryz.func46 rfl rfl rfl (by kernel_rfl) (Nat.le_of_ble_eq_true rfl) (by kernel_rfl)
@[reducible] noncomputable def p142 (Γ : Glob) : Par := par Γ [7] [] []
theorem ok142 (Γ : Glob) : FnOk (p142 Γ) 142 92 (Tryz.f142.body.getD .skip) Tryz.f142.results.toList 2 := fnOk (par_mixed _ _ _ _) Tryz.func142 rfl rfl rfl (by kernel_rfl) (Nat.le_of_ble_eq_true rfl) (by kernel_rfl)
variable {Γ : Glob}
attribute [local irreducible] codeW opsW dopsW
@[reducible] noncomputable def p42z (Γ : Glob) : Par := par Γ [2, 3, 5] [(5, [false, false, false, false, false, false, true, false, false, false, true])] [(5, [0, 1, 0, 4, 0, 16, 48, 0, 0, 256, 1008, 2044, 4092, 8191, 16383, 32767])]
theorem ok42z (Γ : Glob) : FnOk (p42z Γ) 42 33 (Tryz.f42.body.getD .skip) Tryz.f42.results.toList 1 := fnOk (par_mixed _ _ _ _) Tryz.func42 rfl rfl rfl (by kernel_rfl) (Nat.le_of_ble_eq_true rfl) (by kernel_rfl)
set_option maxHeartbeats 1000000 in
theorem f42 (f : Fm) (hl : Fits f.nodes.length) (hc : ∀ n ∈ f.nodes, NdFit n) : PCalls Tryz.prog Γ 42 [fmA f] (fmA f) := by
  refine pcalls (ok42z Γ) fun σ => ?_
  simp only [go_sem, xQ, ↓reduceIte, xA, xM, xL, xT, xE, xN, xP, xR, xS, Tryz.f42]
  intro b2 hb2
  simp only [go_sem, xQ, ↓reduceIte, xA, xM, xL, xT, xE, xN, xP, xR, xS]
  intro bo hbo
  obtain ⟨hne, hbo⟩ := un hbo
  have hne' : ¬ b2 = bo := fun e => hne e.symm
  simp only [go_sem, xQ, ↓reduceIte, xA, xM, xL, xT, xE, xN, xP, xR, xS, hne, hne']
  refine SemC.loopK mixed f.nodes.length (fun k ρ σ' ds => (ds = [] ∧ ρ 10 = slN f.nodes ∧ ρ 11 = int f.nodes.length ∧ ρ 2 = .v (.pointer (some ⟨b2, 0, none⟩)) ∧ ρ 3 = .v (.pointer (some ⟨bo, 0, none⟩)) ∧ ρ 12 = int k ∧ σ' b2 = some (.row [int 0, .v (.slice none 0 0)] 2 1)) ∧ Drop σ' σ ∧
    ∃ a, σ' bo = some (.row [int f.vars, a] 2 1) ∧ Grow σ σ' 4 a ((f.nodes.take k).flatMap ndC) k) (by kernel_rfl) ⟨by simp only [go_sem, xQ, ↓reduceIte, xA, xM, xL, xT, xE, xN, xP, xR, xS, hne, hne'], by repeat (first | exact Drop.refl _ | assumption | refine Drop.upd ?_ (by assumption)), _, by simp only [go_sem, xQ, ↓reduceIte, xA, xM, xL, xT, xE, xN, xP, xR, xS], .nil _ _ _⟩ ?_
  rintro k ρ σ' ds hk ⟨⟨rfl, h10, h11, h2, h3, h12, hs2⟩, hD, a, hso, hG⟩
  rcases get_or_end f.nodes k hk with ⟨x, hx, hlt, hd⟩ | hk
  · obtain ⟨hx1, hx2⟩ := hc x (mem_of_get hx)
    simp only [go_sem, xQ, ↓reduceIte, xA, xM, xL, xT, xE, xN, xP, xR, xS, h10, h11, h2, h3, h12, hlt, ↓nd_part hx]
    intro b hb
    have n2 := nn hb hs2
    have no := nn hb hso
    have n2' : ¬ b = b2 := fun e => n2 e.symm
    have no' : ¬ b = bo := fun e => no e.symm
    simp only [go_sem, xQ, ↓reduceIte, xA, xM, xL, xT, xE, xN, xP, xR, xS, h10, h11, h2, h3, h12, hlt, ↓nd_part hx, n2, no, n2', no', hs2, hso]
    refine dcallB_use (f60 x.term hx1) rfl ?_
    simp only [go_sem, xQ, ↓reduceIte, xA, xM, xL, xT, xE, xN, xP, xR, xS, n2, no, n2', no', hs2, hso, h10, h11, h2, h3, h12]
    refine ⟨slI x.kids, fun σ' _ K hK => appB_pure (appT_sl el46 tk3 by3 el46 (by decide) rfl (by decide)) (.inr rfl) (src_slI _ x.kids) (by simp [ints]) (by omega) hK, ?_⟩
    simp only [go_sem, xQ, ↓reduceIte, xA, xM, xL, xT, xE, xN, xP, xR, xS, n2, no, n2', no', hs2, hso, h10, h11, h2, h3, h12]
    refine appB_sl (appT_sl el64 tk216 by216 el64 (by decide) rfl (by decide)) (hD.upd (hD.free hb)) (hG.upd hb) rfl rfl (by omega) (fun a' σ2 hD2 hO hG2 => ?_)
    have e2 : σ2 b2 = some (.row [int 0, .v (.slice none 0 0)] 2 1) := by
      rw [hO b2 (hG.neS hs2 (by decide)) (by simp [upd, n2, hs2])]; simp [upd, n2, hs2]
    have eo : σ2 bo = some (.row [int f.vars, a] 2 1) := by
      rw [hO bo (hG.neS hso (by decide)) (by simp [upd, no, hso])]; simp [upd, no, hso]
    have hc2 := hG2.cellsX
    have ho2 := hG2.oneX
    simp only [go_sem, xQ, ↓reduceIte, xA, xM, xL, xT, xE, xN, xP, xR, xS, h10, h11, h2, h3, h12, e2, eo, hc2, ho2, hne', hlt]
    refine ⟨by rw [wrap_succ _ (by omega)], hD2.upd hbo, a', by simp only [go_sem, xQ, ↓reduceIte, xA, xM, xL, xT, xE, xN, xP, xR, xS, upd_same], ?_⟩
    rw [take_succ hx, List.flatMap_append]
    have := hG2.updW (hG2.neS eo (by decide)) (some (.row [int f.vars, a'] 2 1))
    simpa [ndC, slI, int] using this
  · subst hk
    have ho := hG.oneX
    rw [List.take_length] at hG
    simp only [go_sem, xQ, ↓reduceIte, xA, xM, xL, xT, xE, xN, xP, xR, xS, h10, h11, h2, h3, h12, Nat.lt_irrefl, hs2, hso, hne, ho]
    have hG' := hG.updW (hG.neS hs2 (by decide)) (some (.row [int f.vars, a] 2 1))
    exact ⟨.agg (.cons (.refl _) (.cons (hG'.retP (hD.upd hb2)).1 .nil)), hD.upd hb2⟩
theorem Grow.own_of {σ0 σ : Sig} {s n : Nat} {a : AV} {cs : List AV} (h : Grow σ0 σ s a cs n) (hne : cs ≠ []) : ∃ b c, a = .own b s 0 n ∧ σ b = some (.row cs s c) := by
  rcases h with ⟨_, h, _⟩ | ⟨b, c, h, _, h2, _⟩
  · exact absurd h hne
  · exact ⟨b, c, h, h2⟩
theorem kids_nat {kids : List Int} {i : Nat} (h : ∀ k ∈ kids, 0 ≤ k ∧ k < (i : Int)) {j : Nat} {x : Int} (hx : kids[j]? = some x) : ∃ m : Nat, x = m ∧ m < i := by
  have := h x (mem_of_get hx)
  exact ⟨x.toNat, by omega, by omega⟩
theorem kidsB_take {acc : List Bool} {kids : List Int} {j m : Nat} {b : Bool} (hx : kids[j]? = some (m : Int)) (hb : acc[m]? = some b) : kidsB acc (kids.take (j + 1)) = kidsB acc (kids.take j) ++ [b] := by
  rw [take_succ hx, kidsB, kidsB, List.map_append]
  simp [hb]
set_option maxHeartbeats 2000000 in
theorem f142 (f : Fm) (vs : List Int) (hl : f.nodes.length ≤ 1000000) (hN : ∀ i n, f.nodes[i]? = some n → NodeOk n i f.vars) (hv : (vs.length : Int) = f.vars) (hv8 : f.vars ≤ 8) : PCalls Tryz.prog Γ 142 [fmA f, slI vs] (slB (truthF vs f.nodes [])) := by
  refine pcalls (ok142 Γ) fun σ => ?_
  simp only [go_sem, xQ, ↓reduceIte, xA, xM, xL, xT, xE, xN, xP, xR, xS, Tryz.f142]
  refine SemC.loopK mixed f.nodes.length (fun k ρ σ' ds => (ds = [] ∧ ρ 1 = slI vs ∧ ρ 2 = .pp (fmC f) 0 ∧ ρ 6 = int k) ∧ Drop σ' σ ∧ ∃ acc : List Bool, acc.length = k ∧ truthF vs f.nodes [] = truthF vs (f.nodes.drop k) acc ∧ Grow σ σ' 1 (ρ 5) (acc.map bv) k) (by kernel_rfl) ⟨by simp only [go_sem, xQ, ↓reduceIte, xA, xM, xL, xT, xE, xN, xP, xR, xS], Drop.refl _, [], rfl, rfl, .nil _ _ _⟩ ?_
  rintro k ρ σ' ds hk ⟨⟨rfl, h1, h2, h6⟩, hD, acc, hal, hT, hG⟩
  rcases get_or_end f.nodes k hk with ⟨x, hx, hlt, hd⟩ | hk
  · have hok := hN k x hx
    obtain ⟨a, ha⟩ : ∃ a, ρ 5 = a := ⟨_, rfl⟩
    rw [ha] at hG
    have h5 := ha
    simp only [go_sem, xQ, ↓reduceIte, xA, xM, xL, xT, xE, xN, xP, xR, xS, h1, h2, h5, h6, hlt, ↓nd_part hx]
    intro b hb
    simp only [go_sem, xQ, ↓reduceIte, xA, xM, xL, xT, xE, xN, xP, xR, xS, h1, h2, h5, h6, hlt, ↓nd_part hx]
    have q10 : ((1 : Int) = 0) = False := eq_false (by decide)
    have q20 : ((2 : Int) = 0) = False := eq_false (by decide)
    have q21 : ((2 : Int) = 1) = False := eq_false (by decide)
    have q30 : ((3 : Int) = 0) = False := eq_false (by decide)
    have q31 : ((3 : Int) = 1) = False := eq_false (by decide)
    have q32 : ((3 : Int) = 2) = False := eq_false (by decide)
    have q40 : ((4 : Int) = 0) = False := eq_false (by decide)
    have q41 : ((4 : Int) = 1) = False := eq_false (by decide)
    have q42 : ((4 : Int) = 2) = False := eq_false (by decide)
    have q43 : ((4 : Int) = 3) = False := eq_false (by decide)
    rcases kind5 (n := x.kind) (by have := hok.lo; have := hok.hi; omega) with h0 | h0 | h0 | h0 | h0
    · have ht := (hok.term (by omega)).2.1
      have hV : nodeB vs acc x = decide (0 ≤ valueR x.term vs) := by rw [nodeB, if_pos h0]
      simp only [go_sem, xQ, ↓reduceIte, xA, xM, xL, xT, xE, xN, xP, xR, xS, h0, h1, h2, h5, h6, eq_self_iff_true, decide_true]
      refine callB_use (f78 x.term vs (by omega) (by omega)) rfl ?_
      simp only [go_sem, xQ, ↓reduceIte, xA, xM, xL, xT, xE, xN, xP, xR, xS, h1, h2, h5, h6, h0]
      refine appB_sl (appT_sl el211 tk4 by4 el211 (by decide) rfl (by decide)) (hD.upd (hD.free hb)) (hG.upd hb) rfl rfl (by omega) (fun a' σ2 hD2 hO hG2 => ?_)
      simp only [go_sem, xQ, ↓reduceIte, xA, xM, xL, xT, xE, xN, xP, xR, xS, h1, h2, h5, h6, hlt, h0]
      refine ⟨by rw [wrap_succ _ (by omega)], hD2, acc ++ [nodeB vs acc x], by simp [hal], ?_, ?_⟩
      · rw [hT, hd, truthF]
      · rw [List.map_append, hV]
        exact hG2
    · have ht := (hok.term (by omega)).2.1
      have hV : nodeB vs acc x = decide (valueR x.term vs = 0) := by rw [nodeB, if_neg (by omega), if_pos h0]
      simp only [go_sem, xQ, ↓reduceIte, xA, xM, xL, xT, xE, xN, xP, xR, xS, h0, h1, h2, h5, h6, q10, eq_self_iff_true, decide_true, decide_false]
      refine callB_use (f78 x.term vs (by omega) (by omega)) rfl ?_
      simp only [go_sem, xQ, ↓reduceIte, xA, xM, xL, xT, xE, xN, xP, xR, xS, h1, h2, h5, h6, h0]
      refine appB_sl (appT_sl el211 tk4 by4 el211 (by decide) rfl (by decide)) (hD.upd (hD.free hb)) (hG.upd hb) rfl rfl (by omega) (fun a' σ2 hD2 hO hG2 => ?_)
      simp only [go_sem, xQ, ↓reduceIte, xA, xM, xL, xT, xE, xN, xP, xR, xS, h1, h2, h5, h6, hlt, h0]
      refine ⟨by rw [wrap_succ _ (by omega)], hD2, acc ++ [nodeB vs acc x], by simp [hal], ?_, ?_⟩
      · rw [hT, hd, truthF]
      · rw [List.map_append, hV]
        exact hG2
    · obtain ⟨_, _, hk1, hkk⟩ := hok.form (by omega)
      obtain ⟨c0, hc0⟩ : ∃ c0, x.kids = [c0] := List.length_eq_one_iff.1 (hk1 h0)
      have hk00 : x.kids[0]? = some c0 := by rw [hc0]; rfl
      obtain ⟨m, rfl, hm⟩ := kids_nat hkk hk00
      obtain ⟨bm, hbm⟩ : ∃ bm, acc[m]? = some bm := ⟨acc[m]'(by omega), List.getElem?_eq_getElem _⟩
      have hne : acc.map bv ≠ [] := fun e => by have := congrArg List.length e; rw [List.length_map, List.length_nil] at this; omega
      obtain ⟨ba, ca, ea, hba⟩ := hG.own_of hne
      have hnb := nn hb hba
      have hbg := bv_get hbm
      have hV : nodeB vs acc x = !bm := by rw [nodeB, if_neg (by omega), if_neg (by omega), if_pos h0, hc0]; simp [kidsB, hbm]
      rw [ea] at h5
      subst ea
      simp only [go_sem, xQ, ↓reduceIte, xA, xM, xL, xT, xE, xN, xP, xR, xS, h0, hc0, h1, h2, h5, h6, hba, hnb, hbg, hm, q20, q21, eq_self_iff_true, decide_true, decide_false]
      refine appB_sl (appT_sl el211 tk4 by4 el211 (by decide) rfl (by decide)) (hD.upd (hD.free hb)) (hG.upd hb) rfl rfl (by omega) (fun a' σ2 hD2 hO hG2 => ?_)
      simp only [go_sem, xQ, ↓reduceIte, xA, xM, xL, xT, xE, xN, xP, xR, xS, h1, h2, h5, h6, hlt, h0]
      refine ⟨by rw [wrap_succ _ (by omega)], hD2, acc ++ [nodeB vs acc x], by simp [hal], ?_, ?_⟩
      · rw [hT, hd, truthF]
      · rw [List.map_append, hV]
        exact hG2
    · obtain ⟨_, hkl, _, hkk⟩ := hok.form (by omega)
      have hV : nodeB vs acc x = !((kidsB acc x.kids).any fun b => false == b) := by rw [nodeB, if_neg (by omega), if_neg (by omega), if_neg (by omega), if_pos h0]
      simp only [go_sem, xQ, ↓reduceIte, xA, xM, xL, xT, xE, xN, xP, xR, xS, h0, h1, h2, h5, h6, q30, q31, q32, eq_self_iff_true, decide_true, decide_false]
      refine SemC.loopK mixed x.kids.length (fun j ρ' σ'' ds => ds = [] ∧ σ'' = upd σ' b (some (.row (ndC x) 4 1)) ∧ ρ' 1 = slI vs ∧ ρ' 2 = .pp (fmC f) 0 ∧ ρ' 5 = a ∧ ρ' 6 = int k ∧ ρ' 7 = .v (.pointer (some ⟨b, 0, none⟩)) ∧ ρ' 9 = int j ∧ ρ' 8 = .v (.bool (!((kidsB acc (x.kids.take j)).any fun b => false == b)))) (by kernel_rfl) ?_ ?_
      · simp only [go_sem, xQ, ↓reduceIte, xA, xM, xL, xT, xE, xN, xP, xR, xS, h1, h2, h5, h6, ndC, h0, List.take_zero, kidsB, List.map_nil, List.any_nil, Bool.not_false]
      · rintro j ρ' σ'' ds hj ⟨rfl, rfl, g1, g2, g5, g6, g7, g9, g8⟩
        rcases get_or_end x.kids j hj with ⟨c0, hc0, hlt2, _⟩ | hj
        · obtain ⟨m, rfl, hm⟩ := kids_nat hkk hc0
          obtain ⟨bm, hbm⟩ : ∃ bm, acc[m]? = some bm := ⟨acc[m]'(by omega), List.getElem?_eq_getElem _⟩
          have hne : acc.map bv ≠ [] := fun e => by have := congrArg List.length e; rw [List.length_map, List.length_nil] at this; omega
          obtain ⟨ba, ca, ea, hba⟩ := hG.own_of hne
          have hnb := nn hb hba
          have hbg := bv_get hbm
          have hst := kidsB_take hc0 hbm
          rw [ea] at g5
          cases hB : (kidsB acc (x.kids.take j)).any fun b => false == b
          · rw [hB] at g8
            simp only [go_sem, xQ, ↓reduceIte, xA, xM, xL, xT, xE, xN, xP, xR, xS, g1, g2, g5, g6, g7, g8, g9, hc0, hlt2, hba, hnb, hbg, hm, Bool.not_false]
            refine ⟨ea.symm, by rw [wrap_succ _ (by omega)], ?_⟩
            rw [hst, List.any_append, hB]
            cases bm <;> rfl
          · rw [hB] at g8
            simp only [go_sem, xQ, ↓reduceIte, xA, xM, xL, xT, xE, xN, xP, xR, xS, g1, g2, g5, g6, g7, g8, g9, hlt2, Bool.not_true]
            refine ⟨ea.symm, by rw [wrap_succ _ (by omega)], ?_⟩
            rw [hst, List.any_append, hB]
            rfl
        · subst hj
          rw [List.take_length] at g8
          simp only [go_sem, xQ, ↓reduceIte, xA, xM, xL, xT, xE, xN, xP, xR, xS, g1, g2, g5, g6, g7, g8, g9, Nat.lt_irrefl]
          refine appB_sl (appT_sl el211 tk4 by4 el211 (by decide) rfl (by decide)) (hD.upd (hD.free hb)) (hG.upd hb) rfl rfl (by omega) (fun a' σ2 hD2 hO hG2 => ?_)
          simp only [go_sem, xQ, ↓reduceIte, xA, xM, xL, xT, xE, xN, xP, xR, xS, g1, g2, g5, g6, hlt, h0]
          refine ⟨by rw [wrap_succ _ (by omega)], hD2, acc ++ [nodeB vs acc x], by simp [hal], ?_, ?_⟩
          · rw [hT, hd, truthF]
          · rw [List.map_append, hV]
            exact hG2
    · obtain ⟨_, hkl, _, hkk⟩ := hok.form (by omega)
      have hV : nodeB vs acc x = ((kidsB acc x.kids).any fun b => true == b) := by rw [nodeB, if_neg (by omega), if_neg (by omega), if_neg (by omega), if_neg (by omega)]
      simp only [go_sem, xQ, ↓reduceIte, xA, xM, xL, xT, xE, xN, xP, xR, xS, h0, h1, h2, h5, h6, q40, q41, q42, q43, eq_self_iff_true, decide_true, decide_false]
      refine SemC.loopK mixed x.kids.length (fun j ρ' σ'' ds => ds = [] ∧ σ'' = upd σ' b (some (.row (ndC x) 4 1)) ∧ ρ' 1 = slI vs ∧ ρ' 2 = .pp (fmC f) 0 ∧ ρ' 5 = a ∧ ρ' 6 = int k ∧ ρ' 7 = .v (.pointer (some ⟨b, 0, none⟩)) ∧ ρ' 10 = int j ∧ ρ' 8 = .v (.bool ((kidsB acc (x.kids.take j)).any fun b => true == b))) (by kernel_rfl) ?_ ?_
      · simp only [go_sem, xQ, ↓reduceIte, xA, xM, xL, xT, xE, xN, xP, xR, xS, h1, h2, h5, h6, ndC, h0, List.take_zero, kidsB, List.map_nil, List.any_nil, Bool.not_false]
      · rintro j ρ' σ'' ds hj ⟨rfl, rfl, g1, g2, g5, g6, g7, g9, g8⟩
        rcases get_or_end x.kids j hj with ⟨c0, hc0, hlt2, _⟩ | hj
        · obtain ⟨m, rfl, hm⟩ := kids_nat hkk hc0
          obtain ⟨bm, hbm⟩ : ∃ bm, acc[m]? = some bm := ⟨acc[m]'(by omega), List.getElem?_eq_getElem _⟩
          have hne : acc.map bv ≠ [] := fun e => by have := congrArg List.length e; rw [List.length_map, List.length_nil] at this; omega
          obtain ⟨ba, ca, ea, hba⟩ := hG.own_of hne
          have hnb := nn hb hba
          have hbg := bv_get hbm
          have hst := kidsB_take hc0 hbm
          rw [ea] at g5
          cases hB : (kidsB acc (x.kids.take j)).any fun b => true == b
          · rw [hB] at g8
            simp only [go_sem, xQ, ↓reduceIte, xA, xM, xL, xT, xE, xN, xP, xR, xS, g1, g2, g5, g6, g7, g8, g9, hc0, hlt2, hba, hnb, hbg, hm, Bool.not_false]
            refine ⟨ea.symm, by rw [wrap_succ _ (by omega)], ?_⟩
            rw [hst, List.any_append, hB]
            cases bm <;> rfl
          · rw [hB] at g8
            simp only [go_sem, xQ, ↓reduceIte, xA, xM, xL, xT, xE, xN, xP, xR, xS, g1, g2, g5, g6, g7, g8, g9, hlt2, Bool.not_true]
            refine ⟨ea.symm, by rw [wrap_succ _ (by omega)], ?_⟩
            rw [hst, List.any_append, hB]
            rfl
        · subst hj
          rw [List.take_length] at g8
          simp only [go_sem, xQ, ↓reduceIte, xA, xM, xL, xT, xE, xN, xP, xR, xS, g1, g2, g5, g6, g7, g8, g9, Nat.lt_irrefl]
          refine appB_sl (appT_sl el211 tk4 by4 el211 (by decide) rfl (by decide)) (hD.upd (hD.free hb)) (hG.upd hb) rfl rfl (by omega) (fun a' σ2 hD2 hO hG2 => ?_)
          simp only [go_sem, xQ, ↓reduceIte, xA, xM, xL, xT, xE, xN, xP, xR, xS, g1, g2, g5, g6, hlt, h0]
          refine ⟨by rw [wrap_succ _ (by omega)], hD2, acc ++ [nodeB vs acc x], by simp [hal], ?_, ?_⟩
          · rw [hT, hd, truthF]
          · rw [List.map_append, hV]
            exact hG2
  · subst hk
    simp only [go_sem, xQ, ↓reduceIte, xA, xM, xL, xT, xE, xN, xP, xR, xS, h1, h2, h6, Nat.lt_irrefl]
    rw [List.drop_length, truthF] at hT
    rw [hT, hal]
    exact hG.retP hD
set_option maxHeartbeats 1000000 in
theorem f46 (f : Fm) (vs : List Int) (hl : f.nodes.length ≤ 1000000) (hne : f.nodes ≠ []) (hN : ∀ i n, f.nodes[i]? = some n → NodeOk n i f.vars) (hv : (vs.length : Int) = f.vars) (hv8 : f.vars ≤ 8) : PCalls Tryz.prog Γ 46 [fmA f, slI vs] (.v (.bool (holdsB f vs))) := by
  obtain ⟨n, hn⟩ : ∃ n, f.nodes.length = n + 1 := ⟨f.nodes.length - 1, by have := List.length_pos_iff.2 hne; omega⟩
  have htl : (truthF vs f.nodes []).length = n + 1 := by rw [truthF_len, hn]; simp
  have hw : IntKind.i64.wrap (((n + 1 : Nat) : Int) - 1) = (n : Int) := by rw [wrap_i64 _ (by omega) (by omega)]; omega
  have hlt : n < n + 1 := by omega
  obtain ⟨bl, hbl⟩ : ∃ bl, (truthF vs f.nodes [])[n]? = some bl := ⟨_, List.getElem?_eq_getElem (by omega)⟩
  have hg := bv_get hbl
  have hlast : holdsB f vs = bl := by
    rw [holdsB, List.getLastD_eq_getLast?, List.getLast?_eq_getElem?, htl]
    simp [hbl]
  rw [hlast]
  refine pcalls (ok46 Γ) fun σ => ?_
  simp only [go_sem, xQ, ↓reduceIte, xA, xM, xL, xT, xE, xN, xP, xR, xS, Tryz.f46]
  refine dcallB_use (f142 f vs hl hN hv hv8) rfl ?_
  simp only [go_sem, xQ, ↓reduceIte, xA, xM, xL, xT, xE, xN, xP, xR, xS, hn, hw]
  simp only [go_sem, xQ, ↓reduceIte, xA, xM, xL, xT, xE, xN, xP, xR, xS, slB, hw, hn, hlt, hg, htl]
end Go.AL

/- FormulaHolds: the law holds at every formula and all values. -/
set_option linter.unusedVariables false
set_option linter.unusedSimpArgs false
namespace Go.AL
open Go.Proofs
variable {Γ : Glob}
attribute [local irreducible] codeW opsW dopsW
theorem short_fits {f : Fm} (h : shortFB f = true) : f.nodes.length ≤ 201 ∧ ∀ n ∈ f.nodes, NdFit n := by
  unfold shortFB at h
  rw [Bool.and_eq_true, Bool.or_eq_true, decide_eq_true_eq, decide_eq_true_eq, List.all_eq_true] at h
  refine ⟨by omega, fun n hn => ?_⟩
  have := h.1 n hn
  simp [shortNdB] at this
  exact ⟨by omega, by omega⟩
set_option maxHeartbeats 2000000 in
theorem f5 (hG : Γ 0 = some sortsT) (hG2 : Γ 2 = some [int 0, int 0]) (hG5 : Γ 5 = some powT) (f : Fm) (vs : List Int) (hl : f.nodes.length ≤ 9223372036854775807) (hv : vs.length ≤ 9223372036854775807) : PCalls Tryz.prog Γ 5 [fmA f, slI vs] (.v (.bool true)) := by
  refine pcalls (ok5 Γ) fun σ => ?_
  by_cases h1 : shortFB f = true
  · obtain ⟨hn, hc⟩ := short_fits h1
    by_cases h2 : (10 : Int) < vs.length
    · simp only [go_sem, xQ, ↓reduceIte, xA, xM, xL, xT, xE, xN, xP, xR, xS, Tryz.f5]
      refine callB_use (f39 f hl) rfl ?_
      simp only [go_sem, xQ, ↓reduceIte, xA, xM, xL, xT, xE, xN, xP, xR, xS, h1, h2]
      refine callB_use (f40 hG hG2 hG5) rfl ?_
      simp only [go_sem, xQ, ↓reduceIte, xA, xM, xL, xT, xE, xN, xP, xR, xS]
    · simp only [go_sem, xQ, ↓reduceIte, xA, xM, xL, xT, xE, xN, xP, xR, xS, Tryz.f5]
      refine callB_use (f39 f hl) rfl ?_
      simp only [go_sem, xQ, ↓reduceIte, xA, xM, xL, xT, xE, xN, xP, xR, xS, h1, h2]
      refine callB_use (f42 f (by omega) hc) rfl ?_
      simp only [go_sem, xQ, ↓reduceIte, xA, xM, xL, xT, xE, xN, xP, xR, xS, h1, h2]
      refine callB_use (f43 vs (by omega)) rfl ?_
      simp only [go_sem, xQ, ↓reduceIte, xA, xM, xL, xT, xE, xN, xP, xR, xS, h1, h2]
      refine callB_use (f41 hG f vs (by omega) hc (by omega)) rfl ?_
      simp only [go_sem, xQ, ↓reduceIte, xA, xM, xL, xT, xE, xN, xP, xR, xS, h1, h2]
      refine callB_use (f44 f (by omega) hc) rfl ?_
      simp only [go_sem, xQ, ↓reduceIte, xA, xM, xL, xT, xE, xN, xP, xR, xS, h1, h2]
      have he : holdsE f vs = if checkE f = 0 then valuesE vs f.vars else checkE f := firstE_two _ _
      by_cases h3 : checkE f = 0
      · obtain ⟨hne, _, hv0, hv8, hN⟩ := check_ok h3
        rw [if_pos h3] at he
        simp only [go_sem, xQ, ↓reduceIte, xA, xM, xL, xT, xE, xN, xP, xR, xS, h1, h2, h3]
        refine callB_use (f45 vs f.vars (by intro h; omega)) rfl ?_
        simp only [go_sem, xQ, ↓reduceIte, xA, xM, xL, xT, xE, xN, xP, xR, xS, h1, h2, h3]
        by_cases h4 : valuesE vs f.vars = 0
        · have hvl : (vs.length : Int) = f.vars := by
            have := (firstE_zero _).1 h4 (whenE (!decide ((vs.length : Int) = f.vars)) 2) (by simp)
            have := (whenE_zero (by decide)).1 this
            simpa using this
          simp only [go_sem, xQ, ↓reduceIte, xA, xM, xL, xT, xE, xN, xP, xR, xS, h1, h2, h3, h4]
          refine callB_use (f46 f vs (by omega) hne hN hvl hv8) rfl ?_
          simp only [go_sem, xQ, ↓reduceIte, xA, xM, xL, xT, xE, xN, xP, xR, xS, h1, h2, h3, h4]
          refine callB_use (f42 f (by omega) hc) rfl ?_
          simp only [go_sem, xQ, ↓reduceIte, xA, xM, xL, xT, xE, xN, xP, xR, xS, h1, h2, h3, h4]
          refine callB_use (f47 hG f (by omega) hc) rfl ?_
          simp only [go_sem, xQ, ↓reduceIte, xA, xM, xL, xT, xE, xN, xP, xR, xS, h1, h2, h3, h4, he, eq_self_iff_true, decide_true, if_true, beq_self_eq_true]
          refine callB_use (f40 hG hG2 hG5) rfl ?_
          simp only [go_sem, xQ, ↓reduceIte, xA, xM, xL, xT, xE, xN, xP, xR, xS]
        · simp only [go_sem, xQ, ↓reduceIte, xA, xM, xL, xT, xE, xN, xP, xR, xS, h1, h2, h3, h4]
          refine callB_use (f42 f (by omega) hc) rfl ?_
          simp only [go_sem, xQ, ↓reduceIte, xA, xM, xL, xT, xE, xN, xP, xR, xS, h1, h2, h3, h4]
          refine callB_use (f47 hG f (by omega) hc) rfl ?_
          simp only [go_sem, xQ, ↓reduceIte, xA, xM, xL, xT, xE, xN, xP, xR, xS, h1, h2, h3, h4, he, eq_self_iff_true, decide_true, if_false, beq_self_eq_true]
          refine callB_use (f40 hG hG2 hG5) rfl ?_
          simp only [go_sem, xQ, ↓reduceIte, xA, xM, xL, xT, xE, xN, xP, xR, xS]
      · rw [if_neg h3] at he
        simp only [go_sem, xQ, ↓reduceIte, xA, xM, xL, xT, xE, xN, xP, xR, xS, h1, h2, h3]
        refine callB_use (f42 f (by omega) hc) rfl ?_
        simp only [go_sem, xQ, ↓reduceIte, xA, xM, xL, xT, xE, xN, xP, xR, xS, h1, h2, h3]
        refine callB_use (f47 hG f (by omega) hc) rfl ?_
        simp only [go_sem, xQ, ↓reduceIte, xA, xM, xL, xT, xE, xN, xP, xR, xS, h1, h2, h3, he, eq_self_iff_true, decide_true, if_false, beq_self_eq_true]
        refine callB_use (f40 hG hG2 hG5) rfl ?_
        simp only [go_sem, xQ, ↓reduceIte, xA, xM, xL, xT, xE, xN, xP, xR, xS]
  · rw [Bool.not_eq_true] at h1
    simp only [go_sem, xQ, ↓reduceIte, xA, xM, xL, xT, xE, xN, xP, xR, xS, Tryz.f5]
    refine callB_use (f39 f hl) rfl ?_
    simp only [go_sem, xQ, ↓reduceIte, xA, xM, xL, xT, xE, xN, xP, xR, xS, h1]
    refine callB_use (f40 hG hG2 hG5) rfl ?_
    simp only [go_sem, xQ, ↓reduceIte, xA, xM, xL, xT, xE, xN, xP, xR, xS]
end Go.AL
