/- Small and used of the reference. -/
import Derived.Test.YtjimmpldofoimaaGreatDoorLb
import Derived.Test.YtjimmpldofoimaaGreatDoorXf
import Derived.Test.YtjimmpldofoimaaGreatDoorXq
open Nat renaming reduceEqDiff → xQ, reduceAdd → xA, reduceMul → xM, reduceLeDiff → xL
open Int renaming reduceLT → xT, reduceLE → xE, reduceToNat → xN
open Go.AL renaming retPost_one → xP, retPost_oneN → xR, ers_at' → xS
set_option linter.unusedVariables false
set_option linter.unusedSimpArgs false
namespace Go.AL
open Go.Proofs
variable {Γ : Glob}
attribute [local irreducible] codeW opsW dopsW
def mn3 (x : Int) : Int := if x < 3000 then x else 3000
def stepZ (acc : List Int) : List Int → Int → Int
 | [], s => s
 | k :: ks, s => stepZ acc ks (mn3 (IntKind.i64.wrap (s + (acc[k.toNat]?).getD 0)))
def sizF : List Nd → List Int → List Int
 | [], acc => acc
 | n :: l, acc => sizF l (acc ++ [stepZ acc n.kids 1])
def smallB (f : Fm) : Bool := decide ((sizF f.nodes []).getLastD 0 ≤ 2000)
set_option maxHeartbeats 1000000 in
theorem f48 (f : Fm) (hl : f.nodes.length ≤ 1000000) (hne : f.nodes ≠ []) (hN : ∀ i n, f.nodes[i]? = some n → NodeOk n i f.vars) : PCalls Tryz.prog Γ 48 [fmA f] (.v (.bool (smallB f))) := by
 refine pcalls (ok48 Γ) fun σ => ?_
 simp only [go_sem, xQ, ↓reduceIte, xA, xM, xL, xT, xE, xN, xP, xR, xS, Tryz.f48]
 refine SemC.loopK mixed f.nodes.length (fun k ρ σ' ds => (ds = [] ∧ ρ 1 = .pp (fmC f) 0 ∧ ρ 4 = int k) ∧ Drop σ' σ ∧ ∃ acc : List Int, acc.length = k ∧ sizF f.nodes [] = sizF (f.nodes.drop k) acc ∧ Grow σ σ' 1 (ρ 3) (ints acc) k) (by kernel_rfl) ⟨by simp only [go_sem, xQ, ↓reduceIte, xA, xM, xL, xT, xE, xN, xP, xR, xS], Drop.refl _, [], rfl, rfl, .nil _ _ _⟩ ?_
 rintro k ρ σ' ds hk ⟨⟨rfl, h1, h4⟩, hD, acc, hal, hz, hG⟩
 rcases get_or_end f.nodes k hk with ⟨x, hx, hlt, hd⟩ | hk
 ·have hok := hN k x hx
  have hkd : ∀ c ∈ x.kids, 0 ≤ c ∧ c < (k : Int) := fun c hc => by
   by_cases h : x.kind ≤ 1
   ·rw [(hok.term h).2.2] at hc; cases hc
   ·exact (hok.form (by omega)).2.2.2 c hc
  have hkl : x.kids.length ≤ 200 := by
   by_cases h : x.kind ≤ 1
   ·rw [(hok.term h).2.2]; exact Nat.zero_le _
   ·exact (hok.form (by omega)).2.1
  have g3 : (f.nodes.flatMap ndC)[k * 4 + 3]? = some (slI x.kids) := nd_get hx 3 (by decide)
  obtain ⟨a, ha⟩ : ∃ a, ρ 3 = a := ⟨_, rfl⟩
  rw [ha] at hG
  simp only [go_sem, xQ, ↓reduceIte, xA, xM, xL, xT, xE, xN, xP, xR, xS, h1, h4, hlt]
  refine SemC.loopK mixed x.kids.length (fun j ρ' σ'' ds => ds = [] ∧ σ'' = σ' ∧ (ρ' 1 = .pp (fmC f) 0 ∧ ρ' 3 = a ∧ ρ' 4 = int k) ∧ ρ' 6 = int j ∧ ∃ s, ρ' 5 = int s ∧ stepZ acc x.kids 1 = stepZ acc (x.kids.drop j) s) (by kernel_rfl) ⟨rfl, rfl, by simp only [go_sem, xQ, ↓reduceIte, xA, xM, xL, xT, xE, xN, xP, xR, xS, h1, ha, h4], rfl, 1, rfl, rfl⟩ ?_
  rintro j ρ' σ'' ds hj ⟨rfl, rfl, H, h6, s, h5, hs⟩
  rcases get_or_end x.kids j hj with ⟨c0, hc0, hlt2, hdd⟩ | hj
  ·obtain ⟨m, rfl, hm⟩ := kids_nat hkd hc0
   have hne : ints acc ≠ [] := fun e => by have := congrArg List.length e; rw [ints_len, List.length_nil] at this; omega
   obtain ⟨ba, ca, ea, hba⟩ := hG.own_of hne
   subst ea
   obtain ⟨v, hv⟩ : ∃ v, acc[m]? = some v := ⟨acc[m]'(by omega), List.getElem?_eq_getElem _⟩
   rw [hdd, stepZ, Int.toNat_natCast, hv, Option.getD_some] at hs
   simp only [go_sem, xQ, ↓reduceIte, xA, xM, xL, xT, xE, xN, xP, xR, xS, H, h6, h5, hlt, g3, hlt2, hc0, hm, hba, hv]
   refine ⟨by rw [wrap_succ _ (by omega)], _, rfl, ?_⟩
   rw [hs]
   rfl
  ·subst hj
   rw [List.drop_length, stepZ] at hs
   simp only [go_sem, xQ, ↓reduceIte, xA, xM, xL, xT, xE, xN, xP, xR, xS, H, h6, h5, hlt, g3, Nat.lt_irrefl]
   refine appB_sl (appT_sl el46 tk3 by3 el46 (by decide) rfl (by decide)) hD hG rfl rfl (by omega) (fun a' σ2 hD2 hO hG2 => ?_)
   simp only [go_sem, xQ, ↓reduceIte, xA, xM, xL, xT, xE, xN, xP, xR, xS, H]
   refine ⟨by rw [wrap_succ _ (by omega)], hD2, acc ++ [s], by simp [hal], ?_, ?_⟩
   ·rw [hz, hd, sizF, hs]
   ·simpa [ints, int] using hG2
 ·subst hk
  have hpos := List.length_pos_iff.2 hne
  rw [List.drop_length, sizF] at hz
  have hne' : ints acc ≠ [] := fun e => by have := congrArg List.length e; rw [ints_len, List.length_nil] at this; omega
  obtain ⟨ba, ca, ea, hba⟩ := hG.own_of hne'
  obtain ⟨n, hn⟩ : ∃ n, f.nodes.length = n + 1 := ⟨f.nodes.length - 1, by omega⟩
  have hw : IntKind.i64.wrap (((n + 1 : Nat) : Int) - 1) = (n : Int) := by rw [wrap_i64 _ (by omega) (by omega)]; omega
  obtain ⟨v, hv⟩ : ∃ v, acc[n]? = some v := ⟨acc[n]'(by omega), List.getElem?_eq_getElem _⟩
  have hb : smallB f = decide (v ≤ 2000) := by
   rw [smallB, hz, List.getLastD_eq_getLast?, List.getLast?_eq_getElem?, hal, hn]
   simp [hv]
  have hlt : n < n + 1 := by omega
  rw [hn] at ea
  simp only [go_sem, xQ, ↓reduceIte, xA, xM, xL, xT, xE, xN, xP, xR, xS, h1, h4, ea, hba, hn, hw, hlt, hv, Nat.lt_irrefl]
  exact retP_drop hD (by rw [hb])
/-! ### used -/
theorem bools_zeros (n : Nat) : (List.replicate n [AV.v (.bool false)]).flatten = (List.replicate n false).map bv := by
 induction n with
 | zero => rfl
 | succ n ih => rw [List.replicate_succ, List.flatten_cons, ih, List.replicate_succ, List.map_cons]; rfl
theorem bools_put {L : List Bool} {k : Nat} {v : Bool} (h : k < L.length) : putL (L.map bv) k [AV.v (.bool v)] = (L.set k v).map bv := by
 have : L.set k v = L.take k ++ v :: L.drop (k + 1) := List.set_eq_take_append_cons_drop.trans (if_pos h)
 rw [this, putL]
 simp [bv, List.map_take, List.map_drop]
theorem set_other {L : List Bool} {k m : Nat} {v x : Bool} (h : L[m]? = some x) (hk : k ≠ m) : (L.set k v)[m]? = some x := by
 rw [List.getElem?_set_ne hk]; exact h
set_option maxHeartbeats 4000000 in
set_option maxRecDepth 20000 in
theorem f153 (f : Fm) (hl : f.nodes.length ≤ 1000) (hc : ∀ n ∈ f.nodes, NdFit n) (hne : f.nodes ≠ []) (hN : ∀ i n, f.nodes[i]? = some n → NodeOk n i f.vars) : PCalls Tryz.prog Γ 153 [fmA f] (.v (.bool (usedB f.nodes))) := by
 have hpos := List.length_pos_iff.2 hne
 have hA8 : (f.nodes.length : Int) ≤ 140737488355328 := by omega
 have hA9 : (f.nodes.length : Int) ≤ 9223372036854775807 := by omega
 have hw1 : IntKind.i64.wrap ((f.nodes.length : Int) - 1) = ((f.nodes.length - 1 : Nat) : Int) := by rw [wrap_i64 _ (by omega) (by omega)]; omega
 refine pcalls (ok153 Γ) fun σ => ?_
 simp only [go_sem, xQ, ↓reduceIte, xA, xM, xL, xT, xE, xN, xP, xR, xS, Tryz.f153, hA8, hA9, bools_zeros, Int.one_mul]
 intro bP hbP
 simp only [go_sem, xQ, ↓reduceIte, xA, xM, xL, xT, xE, xN, xP, xR, xS, hA8, hA9, bools_zeros, Int.one_mul]
 intro bT hbT
 obtain ⟨nPT', hbT⟩ := un hbT
 have nPT : ¬ bP = bT := fun e => nPT' e.symm
 have hz0 : (List.replicate f.nodes.length false)[f.nodes.length - 1]? = some false := by rw [List.getElem?_replicate, if_pos (by omega)]
 have hput0 := bools_put (L := List.replicate f.nodes.length false) (k := f.nodes.length - 1) (v := true) (by simp; omega)
 have hlr : ((List.replicate f.nodes.length false).map bv).length = f.nodes.length := by simp
 have hl1 : f.nodes.length - 1 < f.nodes.length := by omega
 have hl2 : f.nodes.length - 1 + 1 ≤ f.nodes.length := by omega
 simp only [go_sem, xQ, ↓reduceIte, xA, xM, xL, xT, xE, xN, xP, xR, xS, hA8, hA9, bools_zeros, nPT, nPT', hw1, ↓hput0, hlr, hl1, hl2, Int.toNat_natCast]
 refine SemC.loopK mixed f.nodes.length (fun k ρ σ' ds => ds = [] ∧ (ρ 1 = .pp (fmC f) 0 ∧ ρ 3 = .own bP 1 0 f.nodes.length ∧ ρ 4 = .own bT 1 0 f.nodes.length) ∧ ρ 5 = int ((f.nodes.length : Int) - 1 - k) ∧ Drop σ' σ ∧ ∃ P T : List Bool, (P.length = f.nodes.length ∧ T.length = f.nodes.length ∧ usedB f.nodes = usedF f.nodes (f.nodes.length - k) (P, T)) ∧ σ' bP = some (.row (P.map bv) 1 f.nodes.length) ∧ σ' bT = some (.row (T.map bv) 1 f.nodes.length)) (by kernel_rfl) ?_ ?_
 ·refine ⟨rfl, by simp only [go_sem, xQ, ↓reduceIte, xA, xM, xL, xT, xE, xN, xP, xR, xS, Int.toNat_natCast], ?_, ?_, (List.replicate f.nodes.length false).set (f.nodes.length - 1) true, List.replicate f.nodes.length false, ⟨by simp, by simp, rfl⟩, ?_, ?_⟩
  ·simp only [go_sem, xQ, ↓reduceIte, xA, xM, xL, xT, xE, xN, xP, xR, xS, hlr, hw1, Int.toNat_natCast]
   try (congr 2; omega)
  ·repeat (first | exact Drop.refl _ | assumption | refine Drop.upd ?_ (by assumption))
  ·simp only [go_sem, xQ, ↓reduceIte, xA, xM, xL, xT, xE, xN, xP, xR, xS, nPT, nPT']
  ·simp only [go_sem, xQ, ↓reduceIte, xA, xM, xL, xT, xE, xN, xP, xR, xS, nPT, nPT', Int.toNat_natCast, bools_zeros]
 rintro k ρ σ' ds hk ⟨rfl, H0, h5, hD, P0, T0, ⟨lP0, lT0, hU⟩, hP0, hT0⟩
 rcases Nat.lt_or_ge k f.nodes.length with hkl | hkl
 ·obtain ⟨m, hm⟩ : ∃ m, f.nodes.length = m + 1 + k := ⟨f.nodes.length - 1 - k, by omega⟩
  have e5 : (f.nodes.length : Int) - 1 - k = (m : Int) := by omega
  rw [e5] at h5
  have hmg : (0 : Int) ≤ (m : Int) := by omega
  have hml : m < f.nodes.length := by omega
  obtain ⟨n, hn⟩ : ∃ n, f.nodes[m]? = some n := ⟨f.nodes[m]'hml, List.getElem?_eq_getElem _⟩
  have hok := hN m n hn
  have hnf := hc n (mem_of_get hn)
  have hkd : ∀ c ∈ n.kids, 0 ≤ c ∧ c < (m : Int) := fun c hc => by
   by_cases h : n.kind ≤ 1
   ·rw [(hok.term h).2.2] at hc; cases hc
   ·exact (hok.form (by omega)).2.2.2 c hc
  obtain ⟨p, hpm0⟩ : ∃ p, P0[m]? = some p := ⟨P0[m]'(by omega), List.getElem?_eq_getElem _⟩
  obtain ⟨t, htm0⟩ : ∃ t, T0[m]? = some t := ⟨T0[m]'(by omega), List.getElem?_eq_getElem _⟩
  rw [show f.nodes.length - k = m + 1 by omega, usedF, hn] at hU
  simp only [hpm0, htm0, Option.getD_some] at hU
  simp only [go_sem, xQ, ↓reduceIte, xA, xM, xL, xT, xE, xN, xP, xR, xS, H0, h5, hmg, hml, ↓nd_part hn]
  intro b6 hb6
  have n6P := nn hb6 hP0
  have n6T := nn hb6 hT0
  have n6P' : ¬ b6 = bP := fun e => n6P e.symm
  have n6T' : ¬ b6 = bT := fun e => n6T e.symm
  have z6 := hD.free hb6
  simp only [go_sem, xQ, ↓reduceIte, xA, xM, xL, xT, xE, xN, xP, xR, xS, H0, h5, hmg, hml, ↓nd_part hn, n6P, n6T, n6P', n6T', hP0, hT0]
  refine SemC.loopK mixed n.kids.length (fun j ρ σ2 ds => ds = [] ∧ (ρ 1 = .pp (fmC f) 0 ∧ ρ 3 = .own bP 1 0 f.nodes.length ∧ ρ 4 = .own bT 1 0 f.nodes.length ∧ ρ 5 = int m ∧ ρ 6 = .v (.pointer (some ⟨b6, 0, none⟩))) ∧ ρ 7 = int j ∧ Drop σ2 σ ∧ σ2 b6 = some (.row (ndC n) 4 1) ∧ ∃ P T : List Bool, (P.length = f.nodes.length ∧ T.length = f.nodes.length ∧ P[m]? = some p ∧ T[m]? = some t ∧ markK n.kind p t n.kids (P0, T0) = markK n.kind p t (n.kids.drop j) (P, T)) ∧ σ2 bP = some (.row (P.map bv) 1 f.nodes.length) ∧ σ2 bT = some (.row (T.map bv) 1 f.nodes.length)) (by kernel_rfl) ?_ ?_
  ·refine ⟨rfl, by simp only [go_sem, xQ, ↓reduceIte, xA, xM, xL, xT, xE, xN, xP, xR, xS, H0, h5], rfl, by repeat (first | exact hD | refine Drop.upd ?_ z6), by simp only [go_sem, xQ, ↓reduceIte, xA, xM, xL, xT, xE, xN, xP, xR, xS, ndC], P0, T0, ⟨lP0, lT0, hpm0, htm0, rfl⟩, by simp only [go_sem, xQ, ↓reduceIte, xA, xM, xL, xT, xE, xN, xP, xR, xS, n6P, hP0], by simp only [go_sem, xQ, ↓reduceIte, xA, xM, xL, xT, xE, xN, xP, xR, xS, n6T, hT0]⟩
  rintro j ρ σ2 ds hj ⟨rfl, H, h7, hD2, h6, P, T, ⟨lP1, lT1, hpm, htm, hM⟩, hP, hT⟩
  simp only [ndC] at h6
  have z_P : σ bP = none := hbP
  have z_T : σ bT = none := hbT
  rcases get_or_end n.kids j hj with ⟨c0, hc0, hlt2, hdd⟩ | hj
  ·obtain ⟨m', rfl, hm'⟩ := kids_nat hkd hc0
   have hwj : IntKind.i64.wrap ((j : Int) + 1) = ((j + 1 : Nat) : Int) := wrap_succ _ (by have := hnf.2; omega)
   rw [hdd] at hM
   obtain ⟨pc, hpc⟩ : ∃ pc, P[m']? = some pc := ⟨P[m']'(by omega), List.getElem?_eq_getElem _⟩
   obtain ⟨tc, htc⟩ : ∃ tc, T[m']? = some tc := ⟨T[m']'(by omega), List.getElem?_eq_getElem _⟩
   have gpc := bv_get hpc
   have gtc := bv_get htc
   have gpm := bv_get hpm
   have gtm := bv_get htm
   have hPl : m' < P.length := by omega
   have hTl : m' < T.length := by omega
   have putP := fun v => bools_put (L := P) (k := m') (v := v) hPl
   have putT := fun v => bools_put (L := T) (k := m') (v := v) hTl
   have lP : (P.map bv).length = f.nodes.length := by rw [List.length_map]; omega
   have lT : (T.map bv).length = f.nodes.length := by rw [List.length_map]; omega
   have gpm2 : ∀ v, ((P.set m' v).map bv)[m]? = some (.v (.bool p)) := fun v => bv_get (set_other hpm (by omega))
   have gtm2 : ∀ v, ((T.set m' v).map bv)[m]? = some (.v (.bool t)) := fun v => bv_get (set_other htm (by omega))
   have lP2 : ∀ v, ((P.set m' v).map bv).length = f.nodes.length := fun v => by rw [List.length_map, List.length_set]; omega
   have lT2 : ∀ v, ((T.set m' v).map bv).length = f.nodes.length := fun v => by rw [List.length_map, List.length_set]; omega
   have hcl : m' < f.nodes.length := by omega
   have hcl1 : m' + 1 ≤ f.nodes.length := by omega
   have hml : m < f.nodes.length := by omega
   by_cases h2 : n.kind = 2
   ·have hK := eq_true h2
    rw [markK, if_pos h2] at hM
    simp only [Int.toNat_natCast, hpc, htc, Option.getD_some] at hM
    cases tc
    ·cases pc
     ·simp only [go_sem, xQ, ↓reduceIte, xA, xM, xL, xT, xE, xN, xP, xR, xS, H, h7, hP, hT, h6, hlt2, hc0, hK, nPT, nPT', n6P, n6T, n6P', n6T', gpc, gtc, gpm, gtm, lP, lT, hcl, hcl1, hml, ↓putP, ↓putT, gpm2, gtm2, lP2, lT2]
      exact ⟨by rw [hwj], by repeat (first | exact hD2 | refine Drop.upd ?_ z_P | refine Drop.upd ?_ z_T), _, _, ⟨by rw [List.length_set]; omega, by rw [List.length_set]; omega, set_other hpm (by omega), set_other htm (by omega), hM⟩, rfl, rfl⟩
     ·simp only [go_sem, xQ, ↓reduceIte, xA, xM, xL, xT, xE, xN, xP, xR, xS, H, h7, hP, hT, h6, hlt2, hc0, hK, nPT, nPT', n6P, n6T, n6P', n6T', gpc, gtc, gpm, gtm, lP, lT, hcl, hcl1, hml, ↓putP, ↓putT, gpm2, gtm2, lP2, lT2]
      exact ⟨by rw [hwj], by repeat (first | exact hD2 | refine Drop.upd ?_ z_P | refine Drop.upd ?_ z_T), _, _, ⟨by rw [List.length_set]; omega, by rw [List.length_set]; omega, set_other hpm (by omega), set_other htm (by omega), hM⟩, rfl, rfl⟩
    ·cases pc
     ·simp only [go_sem, xQ, ↓reduceIte, xA, xM, xL, xT, xE, xN, xP, xR, xS, H, h7, hP, hT, h6, hlt2, hc0, hK, nPT, nPT', n6P, n6T, n6P', n6T', gpc, gtc, gpm, gtm, lP, lT, hcl, hcl1, hml, ↓putP, ↓putT, gpm2, gtm2, lP2, lT2]
      exact ⟨by rw [hwj], by repeat (first | exact hD2 | refine Drop.upd ?_ z_P | refine Drop.upd ?_ z_T), _, _, ⟨by rw [List.length_set]; omega, by rw [List.length_set]; omega, set_other hpm (by omega), set_other htm (by omega), hM⟩, rfl, rfl⟩
     ·simp only [go_sem, xQ, ↓reduceIte, xA, xM, xL, xT, xE, xN, xP, xR, xS, H, h7, hP, hT, h6, hlt2, hc0, hK, nPT, nPT', n6P, n6T, n6P', n6T', gpc, gtc, gpm, gtm, lP, lT, hcl, hcl1, hml, ↓putP, ↓putT, gpm2, gtm2, lP2, lT2]
      exact ⟨by rw [hwj], by repeat (first | exact hD2 | refine Drop.upd ?_ z_P | refine Drop.upd ?_ z_T), _, _, ⟨by rw [List.length_set]; omega, by rw [List.length_set]; omega, set_other hpm (by omega), set_other htm (by omega), hM⟩, rfl, rfl⟩
   ·have hK := h2
    rw [markK, if_neg h2] at hM
    simp only [Int.toNat_natCast, hpc, htc, Option.getD_some] at hM
    cases tc
    ·cases pc
     ·simp only [go_sem, xQ, ↓reduceIte, xA, xM, xL, xT, xE, xN, xP, xR, xS, H, h7, hP, hT, h6, hlt2, hc0, hK, nPT, nPT', n6P, n6T, n6P', n6T', gpc, gtc, gpm, gtm, lP, lT, hcl, hcl1, hml, ↓putP, ↓putT, gpm2, gtm2, lP2, lT2]
      exact ⟨by rw [hwj], by repeat (first | exact hD2 | refine Drop.upd ?_ z_P | refine Drop.upd ?_ z_T), _, _, ⟨by rw [List.length_set]; omega, by rw [List.length_set]; omega, set_other hpm (by omega), set_other htm (by omega), hM⟩, rfl, rfl⟩
     ·simp only [go_sem, xQ, ↓reduceIte, xA, xM, xL, xT, xE, xN, xP, xR, xS, H, h7, hP, hT, h6, hlt2, hc0, hK, nPT, nPT', n6P, n6T, n6P', n6T', gpc, gtc, gpm, gtm, lP, lT, hcl, hcl1, hml, ↓putP, ↓putT, gpm2, gtm2, lP2, lT2]
      exact ⟨by rw [hwj], by repeat (first | exact hD2 | refine Drop.upd ?_ z_P | refine Drop.upd ?_ z_T), _, _, ⟨by rw [List.length_set]; omega, by rw [List.length_set]; omega, set_other hpm (by omega), set_other htm (by omega), hM⟩, rfl, rfl⟩
    ·cases pc
     ·simp only [go_sem, xQ, ↓reduceIte, xA, xM, xL, xT, xE, xN, xP, xR, xS, H, h7, hP, hT, h6, hlt2, hc0, hK, nPT, nPT', n6P, n6T, n6P', n6T', gpc, gtc, gpm, gtm, lP, lT, hcl, hcl1, hml, ↓putP, ↓putT, gpm2, gtm2, lP2, lT2]
      exact ⟨by rw [hwj], by repeat (first | exact hD2 | refine Drop.upd ?_ z_P | refine Drop.upd ?_ z_T), _, _, ⟨by rw [List.length_set]; omega, by rw [List.length_set]; omega, set_other hpm (by omega), set_other htm (by omega), hM⟩, rfl, rfl⟩
     ·simp only [go_sem, xQ, ↓reduceIte, xA, xM, xL, xT, xE, xN, xP, xR, xS, H, h7, hP, hT, h6, hlt2, hc0, hK, nPT, nPT', n6P, n6T, n6P', n6T', gpc, gtc, gpm, gtm, lP, lT, hcl, hcl1, hml, ↓putP, ↓putT, gpm2, gtm2, lP2, lT2]
      exact ⟨by rw [hwj], by repeat (first | exact hD2 | refine Drop.upd ?_ z_P | refine Drop.upd ?_ z_T), _, _, ⟨by rw [List.length_set]; omega, by rw [List.length_set]; omega, set_other hpm (by omega), set_other htm (by omega), hM⟩, rfl, rfl⟩
  ·subst hj
   rw [List.drop_length, markK] at hM
   have gtm := bv_get htm
   have lT : (T.map bv).length = f.nodes.length := by rw [List.length_map]; omega
   have hwm : IntKind.i64.wrap ((m : Int) - 1) = (f.nodes.length : Int) - 1 - ((k + 1 : Nat) : Int) := by rw [wrap_i64 _ (by omega) (by omega)]; omega
   have hU2 : badA n = false ∨ t = false → usedB f.nodes = usedF f.nodes (f.nodes.length - (k + 1)) (P, T) := fun h => by
    have e : (t && badA n) = false := by rcases h with h | h <;> simp [h]
    rw [e, hM] at hU
    simp only [Bool.false_eq_true, if_false] at hU
    rw [hU, show f.nodes.length - (k + 1) = m by omega]
   by_cases h1 : n.kind ≤ 1
   ·cases t
    ·simp only [go_sem, xQ, ↓reduceIte, xA, xM, xL, xT, xE, xN, xP, xR, xS, H, h7, hT, h6, Nat.lt_irrefl, h1, gtm, lT, hml]
     exact ⟨hkl, by rw [hwm], hD2, P, T, ⟨lP1, lT1, hU2 (.inr rfl)⟩, hP, by first | exact hT | rfl⟩
    ·simp only [go_sem, xQ, ↓reduceIte, xA, xM, xL, xT, xE, xN, xP, xR, xS, H, h7, hT, h6, Nat.lt_irrefl, h1, gtm, lT, hml]
     refine callB_use (f171 n.term (-1) (-1) (by have := hnf.1; omega)) rfl ?_
     simp only [go_sem, xQ, ↓reduceIte, xA, xM, xL, xT, xE, xN, xP, xR, xS, H, h6]
     refine callB_use (f172 (timesT n.term (-1) (-1)) (by simpa [timesT] using hnf.1)) rfl ?_
     simp only [go_sem, xQ, ↓reduceIte, xA, xM, xL, xT, xE, xN, xP, xR, xS, H, h6]
     by_cases i1 : inRangeB (timesT n.term (-1) (-1)) = true
     ·by_cases k1 : n.kind = 1
      ·simp only [go_sem, xQ, ↓reduceIte, xA, xM, xL, xT, xE, xN, xP, xR, xS, H, h6, i1, k1]
       refine callB_use (f171 n.term 1 (-1) (by have := hnf.1; omega)) rfl ?_
       simp only [go_sem, xQ, ↓reduceIte, xA, xM, xL, xT, xE, xN, xP, xR, xS, H, h6]
       refine callB_use (f172 (timesT n.term 1 (-1)) (by simpa [timesT] using hnf.1)) rfl ?_
       simp only [go_sem, xQ, ↓reduceIte, xA, xM, xL, xT, xE, xN, xP, xR, xS, H, h6]
       by_cases i2 : inRangeB (timesT n.term 1 (-1)) = true
       ·simp only [go_sem, xQ, ↓reduceIte, xA, xM, xL, xT, xE, xN, xP, xR, xS, H, i2]
        exact ⟨hkl, by rw [hwm], hD2, P, T, ⟨lP1, lT1, hU2 (.inl (by simp [badA, i1, i2]))⟩, hP, by first | exact hT | rfl⟩
       ·simp only [go_sem, xQ, ↓reduceIte, xA, xM, xL, xT, xE, xN, xP, xR, xS, H, i2]
        exact retP_drop hD2 (by rw [hU]; simp [badA, h1, k1, i1, i2])
      ·simp only [go_sem, xQ, ↓reduceIte, xA, xM, xL, xT, xE, xN, xP, xR, xS, H, h6, i1, k1]
       exact ⟨hkl, by rw [hwm], hD2, P, T, ⟨lP1, lT1, hU2 (.inl (by simp [badA, i1, k1]))⟩, hP, by first | exact hT | rfl⟩
     ·simp only [go_sem, xQ, ↓reduceIte, xA, xM, xL, xT, xE, xN, xP, xR, xS, H, h6, i1]
      exact retP_drop hD2 (by rw [hU]; simp [badA, h1, i1])
   ·simp only [go_sem, xQ, ↓reduceIte, xA, xM, xL, xT, xE, xN, xP, xR, xS, H, h7, hT, h6, Nat.lt_irrefl, h1]
    exact ⟨hkl, by rw [hwm], hD2, P, T, ⟨lP1, lT1, hU2 (.inl (by simp [badA, h1]))⟩, hP, by first | exact hT | rfl⟩
 ·have hke : k = f.nodes.length := by omega
  subst hke
  rw [Nat.sub_self, usedF] at hU
  have hneg : ¬ (0 : Int) ≤ (f.nodes.length : Int) - 1 - f.nodes.length := by omega
  simp only [go_sem, xQ, ↓reduceIte, xA, xM, xL, xT, xE, xN, xP, xR, xS, H0, h5, hneg]
  exact retP_drop hD (by rw [hU])
end Go.AL

/- The lists of cases of the reference. -/
set_option linter.unusedVariables false
set_option linter.unusedSimpArgs false
namespace Go.AL
open Go.Proofs
variable {Γ : Glob}
attribute [local irreducible] codeW opsW dopsW
def resL (o : Option (List (List Tm))) : AV := .tup [slC (o.getD []), int (match o with | some _ => 0 | none => 30)]
/-- Lists that may be appended. -/
def BdC (C : List (List Tm)) : Prop := C.length ≤ 64 ∧ maxL C ≤ 32
def ListsAt (Γ : Glob) (f : Fm) (i : Nat) : Prop := ∀ b : Bool, PCalls Tryz.prog Γ 152 [fmA f, int i, .v (.bool b)] (resL (refW f.nodes ((i : Int), b))) ∧ ∀ C, refW f.nodes ((i : Int), b) = some C → BdC C
theorem okP_iff {C : List (List Tm)} : okP C = true ↔ BdC C := by
 unfold okP BdC
 rw [Bool.and_eq_true, decide_eq_true_eq, decide_eq_true_eq]
/-- Whole products, and what is made of them on the way. -/
def partN (A C : List (List Tm)) (k : Nat) (x : List Tm) (j : Nat) : List (List Tm) := prodC (A.take k) C ++ (C.take j).map fun y => x ++ y
theorem partN_mem {A C : List (List Tm)} {k j : Nat} {x y : List Tm} (hx : A[k]? = some x) (hy : C[j]? = some y) : x ++ y ∈ prodC A C := by
 rw [prodC]
 exact List.mem_flatMap.2 ⟨x, mem_of_get hx, List.mem_map.2 ⟨y, mem_of_get hy, rfl⟩⟩
theorem partN_len {A C : List (List Tm)} {k j : Nat} {x : List Tm} (hx : A[k]? = some x) (hj : j ≤ C.length) : (partN A C k x j).length = k * C.length + j ∧ k * C.length + j ≤ (prodC A C).length := by
 have hk := lt_of_getElem? hx
 have h1 : (partN A C k x j).length = k * C.length + j := by
  rw [partN, List.length_append, prodC_len, List.length_map, List.length_take, List.length_take, Nat.min_eq_left (by omega), Nat.min_eq_left hj]
 refine ⟨h1, ?_⟩
 rw [prodC_len]
 have : (k + 1) * C.length ≤ A.length * C.length := Nat.mul_le_mul_right _ hk
 rw [Nat.add_mul, Nat.one_mul] at this
 omega
theorem partN_succ {A C : List (List Tm)} {k j : Nat} {x y : List Tm} (hy : C[j]? = some y) : partN A C k x (j + 1) = partN A C k x j ++ [x ++ y] := by
 rw [partN, partN, take_succ hy, List.map_append, List.append_assoc]; rfl
theorem partN0 {A C : List (List Tm)} {k : Nat} {x : List Tm} : partN A C k x 0 = prodC (A.take k) C := by rw [partN, List.take_zero, List.map_nil, List.append_nil]
theorem partN_end {A C : List (List Tm)} {k : Nat} {x : List Tm} (hx : A[k]? = some x) : partN A C k x C.length = prodC (A.take (k + 1)) C := by
 rw [partN, List.take_length, prodC_succ hx]
theorem bad_len {A C : List (List Tm)} {x : List Tm} (h : x ∈ prodC A C) (hl : 32 < x.length) : okP (prodC A C) = false := by
 cases ho : okP (prodC A C)
 ·rfl
 ·have := (okP_iff.1 ho).2
  have := maxL_mem h
  omega
theorem bad_many {A C : List (List Tm)} (h : 64 < (prodC A C).length) : okP (prodC A C) = false := by
 cases ho : okP (prodC A C)
 ·rfl
 ·have := (okP_iff.1 ho).1
  omega
theorem refProd_bad {A C : List (List Tm)} {S : List (List (List Tm))} (h : okP (prodC A C) = false) : refProd (C :: S) A = none := by rw [refProd, h]; rfl
theorem tms_one (l : List Tm) : (l.flatMap tmC).all AV.one = true := by
 rw [List.all_flatMap, List.all_eq_true]
 intro t _
 rfl
theorem tms_len (l : List Tm) : (l.flatMap tmC).length = l.length * 2 := by
 induction l with
 | nil => rfl
 | cons t l ih => rw [List.flatMap_cons, List.length_append, ih, List.length_cons]; show 2 + _ = _; omega
@[reducible] noncomputable def p225z (Γ : Glob) : Par := par Γ [] [(24, [false, false, false, false, false, false, false, false, false, true, false, false, true]), (1000014, [true]), (1000017, [true]), (1000025, [true])] [(6, [0, 0, 0, 6, 14, 0, 63, 127, 255, 255, 511, 2047]), (24, [0, 0, 0, 6, 14, 31, 0, 0, 192, 448, 0, 1984, 4032, 8191, 16383])]
theorem ok225z (Γ : Glob) : FnOk (p225z Γ) 225 97 (Tryz.f225.body.getD .skip) Tryz.f225.results.toList 3 := fnOk (par_mixed _ _ _ _) Tryz.func225 rfl rfl rfl (by kernel_rfl) (Nat.le_of_ble_eq_true rfl) (by kernel_rfl)
/-- The lists so far: the first one, or a row of its own. -/
def OutA (σ0 σ : Sig) (a : AV) (A : List (List Tm)) : Prop := (a = .sl [.v (.slice none 0 0)] 1 ∧ A = [[]]) ∨ Grow σ0 σ 1 a (A.map slT) A.length
theorem OutA.frz {σ0 σ : Sig} {a : AV} {A : List (List Tm)} (h : OutA σ0 σ a A) (hD : Drop σ σ0) : ∃ σ', Drop σ σ' ∧ Drop σ' σ0 ∧ Fz σ σ' a (slC A) := by
 rcases h with ⟨rfl, rfl⟩ | h
 ·exact ⟨σ, Drop.refl _, hD, .sl (.cons .nil .nil)⟩
 ·rcases h with ⟨h, h1, h2⟩ | ⟨b, c, rfl, h1, h2, h3⟩
  ·have : A = [] := List.eq_nil_of_length_eq_zero h2
   subst this
   exact ⟨σ, Drop.refl _, hD, by rcases h with rfl | rfl; exact .nil; exact .e0⟩
  ·exact ⟨ers σ b, Drop.ers σ b, hD.ersX h1, frz_own h2 h3 (ers_same _ _)⟩
theorem OutA.ret {σ0 σ : Sig} {a : AV} {A : List (List Tm)} (h : OutA σ0 σ a A) (hD : Drop σ σ0) : Fz σ σ0 a (slC A) := by
 rcases h with ⟨rfl, rfl⟩ | h
 ·exact .sl (.cons .nil .nil)
 ·exact (h.retP hD).1
theorem Grow.frz {σ0 σ : Sig} {s n : Nat} {a : AV} {cs : List AV} (h : Grow σ0 σ s a cs n) (hD : Drop σ σ0) : ∃ σ', Drop σ σ' ∧ Drop σ' σ0 ∧ Fz σ σ' a (.sl cs n) ∧ ∀ i, (∀ s o m, a ≠ .own i s o m) → σ' i = σ i := by
 rcases h with ⟨h, rfl, rfl⟩ | ⟨b, c, rfl, h1, h2, h3⟩
 ·exact ⟨σ, Drop.refl _, hD, by rcases h with rfl | rfl; exact .nil; exact .e0, fun _ _ => rfl⟩
 ·exact ⟨ers σ b, Drop.ers σ b, hD.ersX h1, frz_own h2 h3 (ers_same _ _), fun i hi => ers_ne _ _ _ (fun e => hi s 0 n (by rw [e]))⟩
theorem Grow.keepS {σ0 σ σ' : Sig} {s n : Nat} {a : AV} {cs : List AV} (h : Grow σ0 σ s a cs n) (hk : ∀ b cs c, σ b = some (.row cs s c) → σ' b = σ b) : Grow σ0 σ' s a cs n := by
 rcases h with h | ⟨b, c, h0, h1, h2, h3⟩
 ·exact .inl h
 ·exact .inr ⟨b, c, h0, h1, by rw [hk b _ _ h2]; exact h2, h3⟩
theorem bd_take {A C : List (List Tm)} {k : Nat} {x y : List Tm} {j : Nat} (h : BdC (partN A C k x j)) (h1 : ¬ 64 < k * C.length + j + 1) (hx : A[k]? = some x) (hj : j ≤ C.length) (h2 : ¬ 32 < (x ++ y).length) : BdC (partN A C k x j ++ [x ++ y]) := by
 refine ⟨?_, ?_⟩
 ·rw [List.length_append, (partN_len hx hj).1]; simp; omega
 ·rw [maxL_app]
  have := h.2
  simp only [maxL]
  omega
set_option maxHeartbeats 4000000 in
set_option maxRecDepth 20000 in
theorem f225 (f : Fm) (i : Nat) (ih : ∀ j, j < i → ListsAt Γ f j) (ks : List Int) (hk : ∀ k ∈ ks, 0 ≤ k ∧ k < (i : Int)) (hkl : ks.length ≤ 1000) (b : Bool) : PCalls Tryz.prog Γ 225 [fmA f, slI ks, .v (.bool b)] (resL ((refAll (ks.map fun x => refW f.nodes (x, b)) []).bind refAnd)) := by
 have q30 : ((30 : Int) = 0) = False := eq_false (by decide)
 refine pcalls (ok225z Γ) fun σ => ?_
 simp only [go_sem, xQ, ↓reduceIte, xA, xM, xL, xT, xE, xN, xP, xR, xS, Tryz.f225]
 refine SemC.loopK mixed ks.length (fun k ρ σ' ds => ds = [] ∧ (ρ 1 = slI ks ∧ ρ 2 = .v (.bool b) ∧ ρ 3 = .pp (fmC f) 0 ∧ ρ 6 = .v (.slice none 0 0) ∧ ρ 7 = int 0) ∧ ρ 10 = int k ∧ Drop σ' σ ∧ ∃ S : List (List (List Tm)), (S.length = k ∧ refAll (ks.map fun x => refW f.nodes (x, b)) [] = refAll ((ks.drop k).map fun x => refW f.nodes (x, b)) S ∧ ∀ C ∈ S, BdC C) ∧ ρ 9 = .v (.bool (S.any fun x => decide (x.length = 0))) ∧ Grow σ σ' 1 (ρ 8) (S.map slC) k) (by kernel_rfl) ⟨rfl, by simp only [go_sem, xQ, ↓reduceIte, xA, xM, xL, xT, xE, xN, xP, xR, xS], rfl, Drop.refl _, [], ⟨rfl, rfl, fun C hC => by cases hC⟩, rfl, .nil _ _ _⟩ ?_
 rintro k ρ σ' ds hkk ⟨rfl, H, h10, hD, S, ⟨hSl, hz, hSb⟩, h9, hG⟩
 rcases get_or_end ks k hkk with ⟨x, hx, hlt, hd⟩ | hkk
 ·obtain ⟨m, rfl, hm⟩ := kids_nat hk hx
  obtain ⟨cL, cB⟩ := ih m hm b
  rw [hd, List.map_cons] at hz
  simp only [go_sem, xQ, ↓reduceIte, xA, xM, xL, xT, xE, xN, xP, xR, xS, H, h10, hlt, hx]
  cases hR : refW f.nodes ((m : Int), b) with
  | none =>
   rw [hR] at cL hz
   rw [refAll] at hz
   simp only [resL, Option.getD_none] at cL
   refine callB_use (cL) rfl ?_
   simp only [go_sem, xQ, ↓reduceIte, xA, xM, xL, xT, xE, xN, xP, xR, xS, H, q30]
   rw [hz]
   exact ⟨.tup (.cons .nil (.cons (.refl _) .nil)), hD⟩
  | some C =>
   rw [hR] at cL hz
   rw [refAll] at hz
   simp only [resL, Option.getD_some] at cL
   have hCb := cB C hR
   obtain ⟨a, ha⟩ : ∃ a, ρ 8 = a := ⟨_, rfl⟩
   rw [ha] at hG
   refine callB_use (cL) rfl ?_
   simp only [go_sem, xQ, ↓reduceIte, xA, xM, xL, xT, xE, xN, xP, xR, xS, H, h10]
   have fin : ∀ (a' : AV) (σ2 : Sig), Drop σ2 σ → Grow σ σ2 1 a' (S.map slC ++ [slC C]) (k + 1) → ((S ++ [C]).length = k + 1 ∧ refAll (ks.map fun x => refW f.nodes (x, b)) [] = refAll ((ks.drop (k + 1)).map fun x => refW f.nodes (x, b)) (S ++ [C]) ∧ ∀ D ∈ S ++ [C], BdC D) ∧ Grow σ σ2 1 a' ((S ++ [C]).map slC) (k + 1) := fun a' σ2 _ hg => ⟨⟨by simp [hSl], hz, fun D hD => by
    rcases List.mem_append.1 hD with h | h
    ·exact hSb D h
    ·rw [List.mem_singleton] at h; subst h; exact hCb⟩, by simpa using hg⟩
   cases hA : S.any fun x => decide (x.length = 0)
   ·rw [hA] at h9
    simp only [go_sem, xQ, ↓reduceIte, xA, xM, xL, xT, xE, xN, xP, xR, xS, H, h10, h9, ha]
    refine appB_sl (appT_sl el350 tk76 by76 el350 (by decide) rfl (by decide)) hD hG rfl rfl (by omega) (fun a' σ2 hD2 hO hG2 => ?_)
    simp only [go_sem, xQ, ↓reduceIte, xA, xM, xL, xT, xE, xN, xP, xR, xS, H, h10, h9, hlt]
    obtain ⟨f1, f2⟩ := fin a' σ2 hD2 hG2
    exact ⟨by rw [wrap_succ _ (by omega)], hD2, S ++ [C], f1, by rw [List.any_append, hA]; simp, f2⟩
   ·rw [hA] at h9
    simp only [go_sem, xQ, ↓reduceIte, xA, xM, xL, xT, xE, xN, xP, xR, xS, H, h10, h9, ha]
    refine appB_sl (appT_sl el350 tk76 by76 el350 (by decide) rfl (by decide)) hD hG rfl rfl (by omega) (fun a' σ2 hD2 hO hG2 => ?_)
    simp only [go_sem, xQ, ↓reduceIte, xA, xM, xL, xT, xE, xN, xP, xR, xS, H, h10, h9, hlt]
    obtain ⟨f1, f2⟩ := fin a' σ2 hD2 hG2
    exact ⟨by rw [wrap_succ _ (by omega)], hD2, S ++ [C], f1, by rw [List.any_append, hA]; simp, f2⟩
 ·subst hkk
  rw [List.drop_length, List.map_nil, refAll] at hz
  rw [hz, Option.bind_some, refAnd]
  cases hA : S.any fun x => decide (x.length = 0)
  ·rw [hA] at h9
   simp only [Bool.false_eq_true, if_false]
   simp only [go_sem, xQ, ↓reduceIte, xA, xM, xL, xT, xE, xN, xP, xR, xS, H, h10, h9, Nat.lt_irrefl]
   obtain ⟨σ1, d1, d2, z1, _⟩ := hG.frz hD
   rw [← hSl] at z1
   refine frzB_val 8 (σ' := σ1) (r := slCC S) d1 (by simp only [go_sem, xQ, ↓reduceIte, xA, xM, xL, xT, xE, xN, xP, xR, xS]; exact z1) ?_
   simp only [go_sem, xQ, ↓reduceIte, xA, xM, xL, xT, xE, xN, xP, xR, xS, H, slCC]
   refine SemC.loopK mixed S.length (fun i ρ σ' ds => ds = [] ∧ (ρ 8 = slCC S ∧ ρ 6 = .v (.slice none 0 0) ∧ ρ 7 = int 0) ∧ ρ 14 = int i ∧ Drop σ' σ ∧ ∃ A, (BdC A ∧ refProd S [[]] = refProd (S.drop i) A) ∧ OutA σ σ' (ρ 13) A) (by kernel_rfl) ⟨rfl, by simp only [go_sem, xQ, ↓reduceIte, xA, xM, xL, xT, xE, xN, xP, xR, xS, H, slCC], rfl, d2, [[]], ⟨⟨by decide, by decide⟩, rfl⟩, .inl ⟨by simp only [go_sem, xQ, ↓reduceIte, xA, xM, xL, xT, xE, xN, xP, xR, xS], rfl⟩⟩ ?_
   rintro i ρ σ' ds hi ⟨rfl, H, h14, hD, A, ⟨hAb, hz⟩, hOut⟩
   rcases get_or_end S i hi with ⟨C, hC, hltC, hdC⟩ | hi
   ·have hCb := hSb C (mem_of_get hC)
    have hCg := slCC_get hC
    rw [hdC] at hz
    obtain ⟨a, ha⟩ : ∃ a, ρ 13 = a := ⟨_, rfl⟩
    rw [ha] at hOut
    simp only [go_sem, xQ, ↓reduceIte, xA, xM, xL, xT, xE, xN, xP, xR, xS, H, h14, slCC, hltC]
    obtain ⟨σ1, d1, d2, z1⟩ := hOut.frz hD
    refine frzB_val 13 (σ' := σ1) (r := slC A) d1 (by simp only [go_sem, xQ, ↓reduceIte, xA, xM, xL, xT, xE, xN, xP, xR, xS, ha]; exact z1) ?_
    simp only [go_sem, xQ, ↓reduceIte, xA, xM, xL, xT, xE, xN, xP, xR, xS, H, h14, slCC, slC]
    refine SemC.loopK mixed A.length (fun k ρ σ' ds => ds = [] ∧ (ρ 8 = slCC S ∧ ρ 6 = .v (.slice none 0 0) ∧ ρ 7 = int 0 ∧ ρ 13 = slC A ∧ ρ 14 = int i) ∧ ρ 16 = int k ∧ Drop σ' σ ∧ BdC (prodC (A.take k) C) ∧ Grow σ σ' 1 (ρ 15) ((prodC (A.take k) C).map slT) (k * C.length)) (by kernel_rfl) ⟨rfl, by simp only [go_sem, xQ, ↓reduceIte, xA, xM, xL, xT, xE, xN, xP, xR, xS, H, h14, slCC, slC], rfl, d2, ⟨by simp [prodC], by simp [prodC, maxL]⟩, by simp only [List.take_zero, Nat.zero_mul]; exact .nil _ _ _⟩ ?_
    rintro k ρ σ' ds hk' ⟨rfl, H, h16, hD, hPb, hG⟩
    rcases get_or_end A k hk' with ⟨x, hx, hltA, hdA⟩ | hk'
    ·have hxg := slC_get hx
     have hxl : x.length ≤ 32 := Nat.le_trans (maxL_mem (mem_of_get hx)) hAb.2
     simp only [go_sem, xQ, ↓reduceIte, xA, xM, xL, xT, xE, xN, xP, xR, xS, H, h16, slCC, slC, hltA]
     refine SemC.loopK mixed C.length (fun j ρ σ' ds => ds = [] ∧ (ρ 8 = slCC S ∧ ρ 6 = .v (.slice none 0 0) ∧ ρ 7 = int 0 ∧ ρ 13 = slC A ∧ ρ 14 = int i ∧ ρ 16 = int k) ∧ ρ 17 = int j ∧ Drop σ' σ ∧ BdC (partN A C k x j) ∧ Grow σ σ' 1 (ρ 15) ((partN A C k x j).map slT) (k * C.length + j)) (by kernel_rfl) ⟨rfl, by simp only [go_sem, xQ, ↓reduceIte, xA, xM, xL, xT, xE, xN, xP, xR, xS, H, h16, slCC, slC], rfl, hD, by rw [partN0]; exact hPb, by rw [partN0, Nat.add_zero]; exact hG⟩ ?_
     rintro j ρ σ' ds hj ⟨rfl, H, h17, hD, hNb, hG⟩
     rcases get_or_end C j hj with ⟨y, hy, hltj, hdj⟩ | hj
     ·have hyg := slC_get hy
      have hyl : y.length ≤ 32 := Nat.le_trans (maxL_mem (mem_of_get hy)) hCb.2
      have hNl := partN_len hx (Nat.le_of_lt hltj)
      have hNl1 := partN_len (x := x) hx hltj
      have hN64 := hNb.1
      rw [hNl.1] at hN64
      obtain ⟨a, ha⟩ : ∃ a, ρ 15 = a := ⟨_, rfl⟩
      rw [ha] at hG
      simp only [go_sem, xQ, ↓reduceIte, xA, xM, xL, xT, xE, xN, xP, xR, xS, H, h17, slCC, slC, hltC, hCg, hltj, hltA, hxg, hyg, slT]
      refine appB_sl (appT_sl el22 tk88 by88 el22 (by decide) rfl (by decide)) hD (Grow.e0 σ _ 2) (tms_one x) (tms_len x) (by omega) (fun a1 σ1 hD1 hO1 hG1 => ?_)
      simp only [go_sem, xQ, ↓reduceIte, xA, xM, xL, xT, xE, xN, xP, xR, xS, H, h17, slCC, slC, hltC, hCg, hltj, hltA, hxg, hyg, slT]
      refine appB_sl (appT_sl el22 tk88 by88 el22 (by decide) rfl (by decide)) hD1 hG1 (tms_one y) (tms_len y) (by omega) (fun a2 σ2 hD2 hO2 hG2 => ?_)
      have e : AV.sl ([] ++ x.flatMap tmC ++ y.flatMap tmC) (0 + x.length + y.length) = slT (x ++ y) := by simp [slT]
      obtain ⟨σ3, d1, d2, z1, o1⟩ := hG2.frz hD2
      have g1 := hG.keepS (σ' := σ1) fun b cs c h => hO1 b (fun s o m e => by cases e) (by rw [h]; exact fun e => by cases e)
      have g2 := g1.keepS (σ' := σ2) fun b cs c h => hO2 b (hG1.neS h (by decide)) (by rw [h]; exact fun e => by cases e)
      have g3 := g2.keepS (σ' := σ3) fun b cs c h => o1 b (hG2.neS h (by decide))
      simp only [go_sem, xQ, ↓reduceIte, xA, xM, xL, xT, xE, xN, xP, xR, xS, H, h17, slCC, slC, slT]
      refine frzB_val 18 (σ' := σ3) (r := slT (x ++ y)) d1 (by simp only [go_sem, xQ, ↓reduceIte, xA, xM, xL, xT, xE, xN, xP, xR, xS]; show Fz _ _ _ (slT (x ++ y)); rw [← e]; exact z1) ?_
      by_cases h32 : (32 : Int) < (x ++ y).length
      ·simp only [go_sem, xQ, ↓reduceIte, xA, xM, xL, xT, xE, xN, xP, xR, xS, H, h17, slCC, slC, slT, h32]
       rw [hz, refProd_bad (bad_len (partN_mem hx hy) (by omega))]
       exact ⟨.tup (.cons .nil (.cons (.refl _) .nil)), d2⟩
      ·simp only [go_sem, xQ, ↓reduceIte, xA, xM, xL, xT, xE, xN, xP, xR, xS, H, h17, slCC, slC, slT, h32, ha]
       refine appB_sl (appT_sl el76 tk22 by22 el76 (by decide) rfl (by decide)) d2 g3 rfl rfl (by omega) (fun a4 σ4 hD4 hO4 hG4 => ?_)
       obtain ⟨ba, ca, ea, hba⟩ := hG4.own_of (by simp)
       subst ea
       by_cases h64 : (64 : Int) < ((k * C.length + j + 1 : Nat) : Int)
       ·simp only [go_sem, xQ, ↓reduceIte, xA, xM, xL, xT, xE, xN, xP, xR, xS, H, h17, slCC, slC, slT, h64]
        rw [hz, refProd_bad (bad_many (by omega))]
        exact ⟨.tup (.cons .nil (.cons (.refl _) .nil)), hD4⟩
       ·simp only [go_sem, xQ, ↓reduceIte, xA, xM, xL, xT, xE, xN, xP, xR, xS, H, h17, slCC, slC, slT, h64]
        refine ⟨hltj, by rw [wrap_succ _ (by omega)], hD4, ?_, ?_⟩
        ·rw [partN_succ hy]
         exact bd_take hNb (by omega) hx (Nat.le_of_lt hltj) (by omega)
        ·rw [partN_succ hy, List.map_append]
         simpa [slT, Nat.add_assoc] using hG4
     ·subst hj
      rw [partN_end hx] at hNb hG
      simp only [go_sem, xQ, ↓reduceIte, xA, xM, xL, xT, xE, xN, xP, xR, xS, H, h17, slCC, slC, Nat.lt_irrefl, hltC, hCg]
      refine ⟨hltA, by rw [wrap_succ _ (by have := hAb.1; omega)], hD, hNb, ?_⟩
      rw [Nat.add_mul, Nat.one_mul]
      exact hG
    ·subst hk'
     rw [List.take_length] at hPb hG
     rw [refProd, if_pos (okP_iff.2 hPb)] at hz
     simp only [go_sem, xQ, ↓reduceIte, xA, xM, xL, xT, xE, xN, xP, xR, xS, H, h16, slCC, slC, Nat.lt_irrefl]
     exact ⟨hltC, by rw [wrap_succ _ (by omega)], hD, prodC A C, ⟨hPb, hz⟩, .inr (by rw [prodC_len]; exact hG)⟩
   ·subst hi
    rw [List.drop_length, refProd] at hz
    rw [hz]
    simp only [go_sem, xQ, ↓reduceIte, xA, xM, xL, xT, xE, xN, xP, xR, xS, H, h14, slCC, Nat.lt_irrefl]
    exact ⟨.tup (.cons (hOut.ret hD) (.cons (.refl _) .nil)), hD⟩
  ·rw [hA] at h9
   simp only [if_true]
   simp only [go_sem, xQ, ↓reduceIte, xA, xM, xL, xT, xE, xN, xP, xR, xS, H, h10, h9, Nat.lt_irrefl]
   exact ⟨.tup (.cons .nil (.cons (.refl _) .nil)), hD⟩
end Go.AL

/- The cases of the reference. -/
set_option linter.unusedVariables false
set_option linter.unusedSimpArgs false
namespace Go.AL
open Go.Proofs
variable {Γ : Glob}
attribute [local irreducible] codeW opsW dopsW
theorem ref_bd {l : List Nd} {vars : Int} (hd : KidsDown l) (hok : ∀ k n, l[k]? = some n → NodeOk n k vars) {i : Nat} {n : Nd} (hn : l[i]? = some n) {b : Bool} {C : List (List Tm)} (h : refW l ((i : Int), b) = some C) : BdC C := by
 rw [ref_cas hd hok (i + 1) i b n (by omega) hn] at h
 cases hb : badW l ((i : Int), b)
 ·rw [hb] at h
  simp at h
  subst h
  have := (cnt_cas hd hok (i + 1) i b n (by omega) hn).2 hb
  exact ⟨this.1, this.2.1⟩
 ·rw [hb] at h
  simp at h
set_option maxHeartbeats 4000000 in
set_option maxRecDepth 20000 in
theorem f152 (f : Fm) (hc : ∀ n ∈ f.nodes, NdFit n) (hd : KidsDown f.nodes) (hok : ∀ k n, f.nodes[k]? = some n → NodeOk n k f.vars) (i : Nat) (n : Nd) (hn : f.nodes[i]? = some n) (ih : ∀ j, j < i → ListsAt Γ f j) : ListsAt Γ f i := by
 intro b
 refine ⟨?_, fun C h => ref_bd hd hok hn h⟩
 have hO := hok i n hn
 have hnf := hc n (mem_of_get hn)
 have hn1 := hnf.1
 have hn2 := hnf.2
 have hlt := lt_of_getElem? hn
 have hkd : ∀ c ∈ n.kids, 0 ≤ c ∧ c < (i : Int) := hd i n hn
 have q30 : ((30 : Int) = 0) = False := eq_false (by decide)
 have q10 : ((1 : Int) = 0) = False := eq_false (by decide)
 have q20 : ((2 : Int) = 0) = False := eq_false (by decide)
 have q21 : ((2 : Int) = 1) = False := eq_false (by decide)
 have q3 : ((3 : Int) = 0) = False := eq_false (by decide)
 have q31 : ((3 : Int) = 1) = False := eq_false (by decide)
 have q32 : ((3 : Int) = 2) = False := eq_false (by decide)
 have q34 : ((3 : Int) = 4) = False := eq_false (by decide)
 have q4 : ((4 : Int) = 0) = False := eq_false (by decide)
 have q41 : ((4 : Int) = 1) = False := eq_false (by decide)
 have q42 : ((4 : Int) = 2) = False := eq_false (by decide)
 have y1 : (!(false == false)) = false := rfl
 have y2 : (!(false == true)) = true := rfl
 have y3 : (!(true == false)) = true := rfl
 have y4 : (!(true == true)) = false := rfl
 have hlo := hO.lo
 have hhi := hO.hi
 rw [refW_eq hd hn, mkR]
 refine pcalls (ok152 Γ) fun σ => ?_
 simp only [go_sem, xQ, ↓reduceIte, xA, xM, xL, xT, xE, xN, xP, xR, xS, Tryz.f152, hlt, ↓nd_part hn]
 intro b8 hb8
 simp only [go_sem, xQ, ↓reduceIte, xA, xM, xL, xT, xE, xN, xP, xR, xS, hlt, ↓nd_part hn]
 intro b9 hb9
 obtain ⟨n98, hb9⟩ := un hb9
 have n98' : ¬ b8 = b9 := fun e => n98 e.symm
 rcases kind5 (n := n.kind) (by omega) with h0 | h0 | h0 | h0 | h0
 ·rw [if_pos (.inl h0), atomR, if_pos h0]
  cases b
  ·simp only [go_sem, xQ, ↓reduceIte, xA, xM, xL, xT, xE, xN, xP, xR, xS, n98, n98', h0]
   exact retP_drop (by repeat (first | exact Drop.refl _ | assumption | refine Drop.upd ?_ (by assumption))) (rfl)
  ·simp only [go_sem, xQ, ↓reduceIte, xA, xM, xL, xT, xE, xN, xP, xR, xS, n98, n98', h0]
   refine callB_use (f171 n.term (-1) (-1) hn1) rfl ?_
   simp only [go_sem, xQ, ↓reduceIte, xA, xM, xL, xT, xE, xN, xP, xR, xS, n98, n98']
   exact retP_drop (by repeat (first | exact Drop.refl _ | assumption | refine Drop.upd ?_ (by assumption))) (rfl)
 ·rw [if_pos (.inr h0), atomR, if_neg (by omega)]
  cases b
  ·simp only [go_sem, xQ, ↓reduceIte, xA, xM, xL, xT, xE, xN, xP, xR, xS, n98, n98', h0, q10]
   refine dcallB_use (f171 n.term (-1) 0 hn1) rfl ?_
   simp only [go_sem, xQ, ↓reduceIte, xA, xM, xL, xT, xE, xN, xP, xR, xS, n98, n98']
   exact retP_drop (by repeat (first | exact Drop.refl _ | assumption | refine Drop.upd ?_ (by assumption))) (rfl)
  ·simp only [go_sem, xQ, ↓reduceIte, xA, xM, xL, xT, xE, xN, xP, xR, xS, n98, n98', h0, q10]
   refine dcallB_use (f171 n.term 1 (-1) hn1) rfl ?_
   simp only [go_sem, xQ, ↓reduceIte, xA, xM, xL, xT, xE, xN, xP, xR, xS, n98, n98']
   refine callB_use (f171 n.term (-1) (-1) hn1) rfl ?_
   simp only [go_sem, xQ, ↓reduceIte, xA, xM, xL, xT, xE, xN, xP, xR, xS, n98, n98']
   exact retP_drop (by repeat (first | exact Drop.refl _ | assumption | refine Drop.upd ?_ (by assumption))) (rfl)
 ·obtain ⟨x, hx⟩ := List.length_eq_one_iff.1 ((hO.form (by omega)).2.2.1 h0)
  have hx0 : n.kids[0]? = some x := by rw [hx]; rfl
  obtain ⟨m, rfl, hm⟩ := kids_nat hkd hx0
  obtain ⟨cL, _⟩ := ih m hm (!b)
  have hsub : (subR f.nodes n b).headD none = refW f.nodes ((m : Int), !b) := by
   rw [subR, hx, h0]
   simp
  rw [if_neg (by omega), if_pos h0, hsub]
  simp only [resL] at cL
  simp only [go_sem, xQ, ↓reduceIte, xA, xM, xL, xT, xE, xN, xP, xR, xS, n98, n98', h0, q20, q21, hx]
  refine callB_use (cL) rfl ?_
  simp only [go_sem, xQ, ↓reduceIte, xA, xM, xL, xT, xE, xN, xP, xR, xS]
  exact retP_drop (by repeat (first | exact Drop.refl _ | assumption | refine Drop.upd ?_ (by assumption))) (rfl)
 ·have hsub : subR f.nodes n b = n.kids.map fun x => refW f.nodes (x, b) := by
   unfold subR
   refine List.map_congr_left fun x _ => ?_
   rw [h0]; simp
  rw [if_neg (by omega), if_neg (by omega), hsub, h0]
  cases b
  ·rw [if_neg (by decide)]
   simp only [go_sem, xQ, ↓reduceIte, xA, xM, xL, xT, xE, xN, xP, xR, xS, n98, n98', h0, q3, q31, q32, q34, y1, y2, y3, y4]
   have c225 := f225 (Γ := Γ) f i ih n.kids hkd (by have := (hO.form (by omega)).2.1; omega) false
   simp only [resL] at c225
   refine callB_use (c225) rfl ?_
   simp only [go_sem, xQ, ↓reduceIte, xA, xM, xL, xT, xE, xN, xP, xR, xS]
   exact retP_drop (by repeat (first | exact Drop.refl _ | assumption | refine Drop.upd ?_ (by assumption))) (rfl)
  ·rw [if_pos (by decide)]
   simp only [go_sem, xQ, ↓reduceIte, xA, xM, xL, xT, xE, xN, xP, xR, xS, n98, n98', h0, q3, q31, q32, q34, y1, y2, y3, y4]
   refine SemC.loopK mixed n.kids.length (fun j ρ σ' ds => ds = [] ∧ (ρ 2 = .v (.bool true) ∧ ρ 3 = .pp (fmC f) 0 ∧ ρ 6 = .v (.slice none 0 0) ∧ ρ 7 = int 0 ∧ ρ 8 = .v (.pointer (some ⟨b8, 0, none⟩))) ∧ ρ 11 = int j ∧ Drop σ' σ ∧ σ' b8 = some (.row [int n.kind, slI n.term.coeffs, int n.term.const, slI n.kids] 4 1) ∧ ∃ acc : List (List Tm), (acc.length ≤ 64 ∧ refOr (n.kids.map fun x => refW f.nodes (x, true)) [] = refOr ((n.kids.drop j).map fun x => refW f.nodes (x, true)) acc) ∧ Grow σ σ' 1 (ρ 10) (acc.map slT) acc.length) (by kernel_rfl) ?_ ?_
   ·refine ⟨rfl, by simp only [go_sem, xQ, ↓reduceIte, xA, xM, xL, xT, xE, xN, xP, xR, xS], rfl, ?_, by simp only [go_sem, xQ, ↓reduceIte, xA, xM, xL, xT, xE, xN, xP, xR, xS, n98, n98', h0], [], ⟨by decide, rfl⟩, .nil _ _ _⟩
    repeat (first | exact Drop.refl _ | assumption | refine Drop.upd ?_ (by assumption))
   rintro j ρ σ' ds hj ⟨rfl, H, h11, hD, g8, acc, ⟨hal, hz⟩, hG⟩
   rcases get_or_end n.kids j hj with ⟨x, hx, hltj, hdj⟩ | hj
   ·obtain ⟨m, rfl, hm⟩ := kids_nat hkd hx
    obtain ⟨cL, cB⟩ := ih m hm true
    rw [hdj, List.map_cons] at hz
    obtain ⟨a, ha⟩ : ∃ a, ρ 10 = a := ⟨_, rfl⟩
    rw [ha] at hG
    simp only [go_sem, xQ, ↓reduceIte, xA, xM, xL, xT, xE, xN, xP, xR, xS, H, h11, g8, hltj, hx]
    cases hR : refW f.nodes ((m : Int), true) with
    | none =>
     rw [hR] at cL hz
     rw [refOr] at hz
     simp only [resL, Option.getD_none] at cL
     refine callB_use (cL) rfl ?_
     simp only [go_sem, xQ, ↓reduceIte, xA, xM, xL, xT, xE, xN, xP, xR, xS, H, q30]
     rw [hz]
     exact ⟨.tup (.cons .nil (.cons (.refl _) .nil)), hD⟩
    | some C =>
     rw [hR] at cL hz
     simp only [resL, Option.getD_some] at cL
     have hCb := cB C hR
     have hC64 := hCb.1
     refine callB_use (cL) rfl ?_
     simp only [go_sem, xQ, ↓reduceIte, xA, xM, xL, xT, xE, xN, xP, xR, xS, H, h11, ha]
     refine appB_sl (appT_sl el76 tk22 by22 el76 (by decide) rfl (by decide)) hD hG (one_slT C) (by simp) (by omega) (fun a' σ2 hD2 hO hG2 => ?_)
     have g8' : σ2 b8 = some (.row [int n.kind, slI n.term.coeffs, int n.term.const, slI n.kids] 4 1) := by rw [hO b8 (hG.neS g8 (by decide)) (by simp [g8]), g8]
     have hGn : Grow σ σ2 1 a' ((acc ++ C).map slT) (acc ++ C).length := by rw [List.map_append, List.length_append]; exact hG2
     have g8 := g8'
     rcases hG2 with ⟨haa, hnil, h00⟩ | ⟨ba, ca, rfl, _, _, _⟩
     ·have h0 : ¬ (64 : Int) < ((acc.length + C.length : Nat) : Int) := by omega
      have hzz := hz
      rw [refOr, if_neg (by rw [List.length_append]; omega)] at hzz
      rcases haa with rfl | rfl
      ·simp only [go_sem, xQ, ↓reduceIte, xA, xM, xL, xT, xE, xN, xP, xR, xS, H, h0, show ((64 : Int) < 0) = False from eq_false (by decide), h11]
       exact ⟨hltj, by rw [wrap_succ _ (by omega)], hD2, g8, acc ++ C, ⟨by rw [List.length_append]; omega, hzz⟩, hGn⟩
      ·simp only [go_sem, xQ, ↓reduceIte, xA, xM, xL, xT, xE, xN, xP, xR, xS, H, h0, show ((64 : Int) < 0) = False from eq_false (by decide), h11]
       exact ⟨hltj, by rw [wrap_succ _ (by omega)], hD2, g8, acc ++ C, ⟨by rw [List.length_append]; omega, hzz⟩, hGn⟩
     ·by_cases h64 : (64 : Int) < ((acc.length + C.length : Nat) : Int)
      ·simp only [go_sem, xQ, ↓reduceIte, xA, xM, xL, xT, xE, xN, xP, xR, xS, H, h64, h11]
       rw [hz, refOr, if_pos (by rw [List.length_append]; omega)]
       exact ⟨.tup (.cons .nil (.cons (.refl _) .nil)), hD2⟩
      ·simp only [go_sem, xQ, ↓reduceIte, xA, xM, xL, xT, xE, xN, xP, xR, xS, H, h64, h11]
       rw [refOr, if_neg (by rw [List.length_append]; omega)] at hz
       exact ⟨hltj, by rw [wrap_succ _ (by omega)], hD2, g8, acc ++ C, ⟨by rw [List.length_append]; omega, hz⟩, hGn⟩
   ·subst hj
    rw [List.drop_length, List.map_nil, refOr] at hz
    rw [hz]
    simp only [go_sem, xQ, ↓reduceIte, xA, xM, xL, xT, xE, xN, xP, xR, xS, H, h11, g8, Nat.lt_irrefl]
    exact ⟨.tup (.cons (hG.retP hD).1 (.cons (.refl _) .nil)), hD⟩
 ·have hsub : subR f.nodes n b = n.kids.map fun x => refW f.nodes (x, b) := by
   unfold subR
   refine List.map_congr_left fun x _ => ?_
   rw [h0]; simp
  rw [if_neg (by omega), if_neg (by omega), hsub, h0]
  cases b
  ·rw [if_pos (by decide)]
   simp only [go_sem, xQ, ↓reduceIte, xA, xM, xL, xT, xE, xN, xP, xR, xS, n98, n98', h0, q4, q41, q42, y1, y2, y3, y4]
   refine SemC.loopK mixed n.kids.length (fun j ρ σ' ds => ds = [] ∧ (ρ 2 = .v (.bool false) ∧ ρ 3 = .pp (fmC f) 0 ∧ ρ 6 = .v (.slice none 0 0) ∧ ρ 7 = int 0 ∧ ρ 8 = .v (.pointer (some ⟨b8, 0, none⟩))) ∧ ρ 11 = int j ∧ Drop σ' σ ∧ σ' b8 = some (.row [int n.kind, slI n.term.coeffs, int n.term.const, slI n.kids] 4 1) ∧ ∃ acc : List (List Tm), (acc.length ≤ 64 ∧ refOr (n.kids.map fun x => refW f.nodes (x, false)) [] = refOr ((n.kids.drop j).map fun x => refW f.nodes (x, false)) acc) ∧ Grow σ σ' 1 (ρ 10) (acc.map slT) acc.length) (by kernel_rfl) ?_ ?_
   ·refine ⟨rfl, by simp only [go_sem, xQ, ↓reduceIte, xA, xM, xL, xT, xE, xN, xP, xR, xS], rfl, ?_, by simp only [go_sem, xQ, ↓reduceIte, xA, xM, xL, xT, xE, xN, xP, xR, xS, n98, n98', h0], [], ⟨by decide, rfl⟩, .nil _ _ _⟩
    repeat (first | exact Drop.refl _ | assumption | refine Drop.upd ?_ (by assumption))
   rintro j ρ σ' ds hj ⟨rfl, H, h11, hD, g8, acc, ⟨hal, hz⟩, hG⟩
   rcases get_or_end n.kids j hj with ⟨x, hx, hltj, hdj⟩ | hj
   ·obtain ⟨m, rfl, hm⟩ := kids_nat hkd hx
    obtain ⟨cL, cB⟩ := ih m hm false
    rw [hdj, List.map_cons] at hz
    obtain ⟨a, ha⟩ : ∃ a, ρ 10 = a := ⟨_, rfl⟩
    rw [ha] at hG
    simp only [go_sem, xQ, ↓reduceIte, xA, xM, xL, xT, xE, xN, xP, xR, xS, H, h11, g8, hltj, hx]
    cases hR : refW f.nodes ((m : Int), false) with
    | none =>
     rw [hR] at cL hz
     rw [refOr] at hz
     simp only [resL, Option.getD_none] at cL
     refine callB_use (cL) rfl ?_
     simp only [go_sem, xQ, ↓reduceIte, xA, xM, xL, xT, xE, xN, xP, xR, xS, H, q30]
     rw [hz]
     exact ⟨.tup (.cons .nil (.cons (.refl _) .nil)), hD⟩
    | some C =>
     rw [hR] at cL hz
     simp only [resL, Option.getD_some] at cL
     have hCb := cB C hR
     have hC64 := hCb.1
     refine callB_use (cL) rfl ?_
     simp only [go_sem, xQ, ↓reduceIte, xA, xM, xL, xT, xE, xN, xP, xR, xS, H, h11, ha]
     refine appB_sl (appT_sl el76 tk22 by22 el76 (by decide) rfl (by decide)) hD hG (one_slT C) (by simp) (by omega) (fun a' σ2 hD2 hO hG2 => ?_)
     have g8' : σ2 b8 = some (.row [int n.kind, slI n.term.coeffs, int n.term.const, slI n.kids] 4 1) := by rw [hO b8 (hG.neS g8 (by decide)) (by simp [g8]), g8]
     have hGn : Grow σ σ2 1 a' ((acc ++ C).map slT) (acc ++ C).length := by rw [List.map_append, List.length_append]; exact hG2
     have g8 := g8'
     rcases hG2 with ⟨haa, hnil, h00⟩ | ⟨ba, ca, rfl, _, _, _⟩
     ·have h0 : ¬ (64 : Int) < ((acc.length + C.length : Nat) : Int) := by omega
      have hzz := hz
      rw [refOr, if_neg (by rw [List.length_append]; omega)] at hzz
      rcases haa with rfl | rfl
      ·simp only [go_sem, xQ, ↓reduceIte, xA, xM, xL, xT, xE, xN, xP, xR, xS, H, h0, show ((64 : Int) < 0) = False from eq_false (by decide), h11]
       exact ⟨hltj, by rw [wrap_succ _ (by omega)], hD2, g8, acc ++ C, ⟨by rw [List.length_append]; omega, hzz⟩, hGn⟩
      ·simp only [go_sem, xQ, ↓reduceIte, xA, xM, xL, xT, xE, xN, xP, xR, xS, H, h0, show ((64 : Int) < 0) = False from eq_false (by decide), h11]
       exact ⟨hltj, by rw [wrap_succ _ (by omega)], hD2, g8, acc ++ C, ⟨by rw [List.length_append]; omega, hzz⟩, hGn⟩
     ·by_cases h64 : (64 : Int) < ((acc.length + C.length : Nat) : Int)
      ·simp only [go_sem, xQ, ↓reduceIte, xA, xM, xL, xT, xE, xN, xP, xR, xS, H, h64, h11]
       rw [hz, refOr, if_pos (by rw [List.length_append]; omega)]
       exact ⟨.tup (.cons .nil (.cons (.refl _) .nil)), hD2⟩
      ·simp only [go_sem, xQ, ↓reduceIte, xA, xM, xL, xT, xE, xN, xP, xR, xS, H, h64, h11]
       rw [refOr, if_neg (by rw [List.length_append]; omega)] at hz
       exact ⟨hltj, by rw [wrap_succ _ (by omega)], hD2, g8, acc ++ C, ⟨by rw [List.length_append]; omega, hz⟩, hGn⟩
   ·subst hj
    rw [List.drop_length, List.map_nil, refOr] at hz
    rw [hz]
    simp only [go_sem, xQ, ↓reduceIte, xA, xM, xL, xT, xE, xN, xP, xR, xS, H, h11, g8, Nat.lt_irrefl]
    exact ⟨.tup (.cons (hG.retP hD).1 (.cons (.refl _) .nil)), hD⟩
  ·rw [if_neg (by decide)]
   simp only [go_sem, xQ, ↓reduceIte, xA, xM, xL, xT, xE, xN, xP, xR, xS, n98, n98', h0, q4, q41, q42, y1, y2, y3, y4]
   have c225 := f225 (Γ := Γ) f i ih n.kids hkd (by have := (hO.form (by omega)).2.1; omega) true
   simp only [resL] at c225
   refine callB_use (c225) rfl ?_
   simp only [go_sem, xQ, ↓reduceIte, xA, xM, xL, xT, xE, xN, xP, xR, xS]
   exact retP_drop (by repeat (first | exact Drop.refl _ | assumption | refine Drop.upd ?_ (by assumption))) (rfl)
theorem listsAt (f : Fm) (hc : ∀ n ∈ f.nodes, NdFit n) (hok : ∀ k n, f.nodes[k]? = some n → NodeOk n k f.vars) : ∀ (N i : Nat), i < N → i < f.nodes.length → ListsAt Γ f i
 | 0, _, h, _ => by omega
 | N + 1, i, hi, hil => f152 f hc (hdown hok) hok i (f.nodes[i]) (List.getElem?_eq_getElem hil) fun j hj => listsAt f hc hok N j (by omega) (by omega)
def refCases (f : Fm) : List (List Tm) × Int := match refW f.nodes (rootW f) with
 | none => ([], 30)
 | some C => if usedB f.nodes then (C, 0) else ([], 4)
set_option maxHeartbeats 1000000 in
theorem f50 (f : Fm) (hl : f.nodes.length ≤ 1000) (hc : ∀ n ∈ f.nodes, NdFit n) (hne : f.nodes ≠ []) (hok : ∀ k n, f.nodes[k]? = some n → NodeOk n k f.vars) : PCalls Tryz.prog Γ 50 [fmA f] (.tup [slC (refCases f).1, int (refCases f).2]) := by
 have hpos := List.length_pos_iff.2 hne
 have hw1 : IntKind.i64.wrap ((f.nodes.length : Int) - 1) = ((f.nodes.length - 1 : Nat) : Int) := by rw [wrap_i64 _ (by omega) (by omega)]; omega
 have hroot : rootW f = (((f.nodes.length - 1 : Nat) : Int), false) := by rw [rootW]; congr 1; omega
 have q30 : ((30 : Int) = 0) = False := eq_false (by decide)
 obtain ⟨cL, _⟩ := listsAt (Γ := Γ) f hc hok f.nodes.length (f.nodes.length - 1) (by omega) (by omega) false
 rw [← hroot] at cL
 unfold refCases
 refine pcalls (ok50 Γ) fun σ => ?_
 simp only [go_sem, xQ, ↓reduceIte, xA, xM, xL, xT, xE, xN, xP, xR, xS, Tryz.f50, hw1]
 cases hR : refW f.nodes (rootW f) with
 | none =>
  rw [hR] at cL
  simp only [resL, Option.getD_none] at cL
  refine callB_use (cL) rfl ?_
  simp only [go_sem, xQ, ↓reduceIte, xA, xM, xL, xT, xE, xN, xP, xR, xS, q30]
  exact ⟨.tup (.cons .nil (.cons (.refl _) .nil)), Drop.refl _⟩
 | some C =>
  rw [hR] at cL
  simp only [resL, Option.getD_some] at cL
  refine callB_use (cL) rfl ?_
  simp only [go_sem, xQ, ↓reduceIte, xA, xM, xL, xT, xE, xN, xP, xR, xS]
  refine callB_use (f153 f hl hc hne hok) rfl ?_
  simp only [go_sem, xQ, ↓reduceIte, xA, xM, xL, xT, xE, xN, xP, xR, xS]
  cases hU : usedB f.nodes
  ·simp only [go_sem, xQ, ↓reduceIte, xA, xM, xL, xT, xE, xN, xP, xR, xS, hU]
   exact ⟨.tup (.cons .nil (.cons (.refl _) .nil)), Drop.refl _⟩
  ·simp only [go_sem, xQ, ↓reduceIte, xA, xM, xL, xT, xE, xN, xP, xR, xS, hU]
/-- The library's cases are the reference's. -/
theorem cases_eq {f : Fm} (h : checkE f = 0) : casesR f = refCases f := by
 obtain ⟨hne, hl200, hv0, hv8, hok⟩ := check_ok h
 have hd := hdown hok
 have hpos := List.length_pos_iff.2 hne
 have hroot : rootW f = (((f.nodes.length - 1 : Nat) : Int), false) := by rw [rootW]; congr 1; omega
 have hu := used_eq hd hok hne
 have hr := ref_cas hd hok f.nodes.length (f.nodes.length - 1) false _ (by omega) (List.getElem?_eq_getElem (by omega))
 have e : ((f.nodes.length : Int) - 1, false) = rootW f := rfl
 rw [e] at hu
 rw [← hroot] at hr
 rw [casesR, if_pos h, refCases, hr, hu]
 cases badW f.nodes (rootW f)
 ·cases larW f.nodes (rootW f) <;> rfl
 ·rfl
end Go.AL

/- Joined, Opposite and Always of the reference. -/
set_option linter.unusedVariables false
set_option linter.unusedSimpArgs false
namespace Go.AL
open Go.Proofs
variable {Γ : Glob}
attribute [local irreducible] codeW opsW dopsW
theorem Drop.row {σ σ' : Sig} {b : Nat} {x : Blk} (h : Drop σ' σ) (hb : σ b = some x) : σ' b = some x := by
 rcases h b with h | h
 ·rw [hb] at h; cases h
 ·rw [← h]; exact hb
theorem onesI (l : List Int) : (ints l).all AV.one = true := by
 induction l with
 | nil => rfl
 | cons t l ih => rw [ints, List.map_cons, List.all_cons]; exact ih
theorem f167 (x : Nd) (hx : NdFit x) : PCalls Tryz.prog Γ 167 [ndA x] (ndA x) := by
 have hx1 := hx.1
 have hx2 := hx.2
 refine pcalls (ok167 Γ) fun σ => ?_
 simp only [go_sem, xQ, ↓reduceIte, xA, xM, xL, xT, xE, xN, xP, xR, xS, Tryz.f167]
 intro b hb
 simp only [go_sem, xQ, ↓reduceIte, xA, xM, xL, xT, xE, xN, xP, xR, xS]
 refine dcallB_use (f117 x.term hx1) rfl ?_
 simp only [go_sem, xQ, ↓reduceIte, xA, xM, xL, xT, xE, xN, xP, xR, xS]
 refine appB_sl (appT_sl el46 tk3 by3 el46 (by decide) rfl (by decide)) ((Drop.refl σ).upd hb) (Grow.e0 σ _ 1) (onesI _) (by simp [ints]) (by omega) (fun a' σ2 hD2 hO hG2 => ?_)
 have hc2 := hG2.cellsX
 have ho2 := hG2.oneX
 have e2 : σ2 b = some (.row [int 0, .v (.slice none 0 0), int 0, .v (.slice none 0 0)] 4 1) := by
  rw [hO b (fun s o m e => by cases e) (by simp [upd])]; simp [upd, int]
 simp only [go_sem, xQ, ↓reduceIte, xA, xM, xL, xT, xE, xN, xP, xR, xS, hc2, ho2, e2]
 have hG := hG2.updW (hG2.neS e2 (by decide)) (some (.row [int x.kind, slI x.term.coeffs, int x.term.const, a'] 4 1))
 simp only [List.nil_append, Nat.zero_add] at hG
 exact ⟨.agg (.cons (.refl _) (.cons (.refl _) (.cons (.refl _) (.cons (hG.retP (hD2.upd hb)).1 .nil)))), hD2.upd hb⟩
/-- A copy of a formula, whose nodes are a row of its own. -/
theorem f166o (f : Fm) (hl : f.nodes.length ≤ 1000000) (hc : ∀ n ∈ f.nodes, NdFit n) {σ : Sig} {K : AV → Sig → Prop} (hK : ∀ a σ', Drop σ' σ → Grow σ σ' 4 a (f.nodes.flatMap ndC) f.nodes.length → K (.agg [int f.vars, a]) σ') : ACalls Tryz.prog Γ 166 [fmA f] σ K := by
 refine acalls (ok166 Γ) ?_
 simp only [go_sem, xQ, ↓reduceIte, xA, xM, xL, xT, xE, xN, xP, xR, xS, Tryz.f166]
 intro b2 hb2
 simp only [go_sem, xQ, ↓reduceIte, xA, xM, xL, xT, xE, xN, xP, xR, xS]
 intro bo hbo
 obtain ⟨hne, hbo⟩ := un hbo
 have hne' : ¬ b2 = bo := fun e => hne e.symm
 simp only [go_sem, xQ, ↓reduceIte, xA, xM, xL, xT, xE, xN, xP, xR, xS, hne, hne']
 refine SemC.loopK mixed f.nodes.length (fun k ρ σ' ds => (ds = [] ∧ ρ 1 = .pp (fmC f) 0 ∧ ρ 2 = .v (.pointer (some ⟨b2, 0, none⟩)) ∧ ρ 3 = .v (.pointer (some ⟨bo, 0, none⟩)) ∧ ρ 4 = int k ∧ σ' b2 = some (.row [int 0, .v (.slice none 0 0)] 2 1)) ∧ Drop σ' σ ∧
  ∃ a, σ' bo = some (.row [int f.vars, a] 2 1) ∧ Grow σ σ' 4 a ((f.nodes.take k).flatMap ndC) k) (by kernel_rfl) ⟨by simp only [go_sem, xQ, ↓reduceIte, xA, xM, xL, xT, xE, xN, xP, xR, xS, hne, hne'], by repeat (first | exact Drop.refl _ | assumption | refine Drop.upd ?_ (by assumption)), _, by simp only [go_sem, xQ, ↓reduceIte, xA, xM, xL, xT, xE, xN, xP, xR, xS], .nil _ _ _⟩ ?_
 rintro k ρ σ' ds hk ⟨⟨rfl, h1, h2, h3, h4, hs2⟩, hD, a, hso, hG⟩
 rcases get_or_end f.nodes k hk with ⟨x, hx, hlt, hd⟩ | hk
 ·simp only [go_sem, xQ, ↓reduceIte, xA, xM, xL, xT, xE, xN, xP, xR, xS, h1, h2, h3, h4, hlt, ↓nd_part hx, hso]
  refine dcallB_use (f167 x (hc x (mem_of_get hx))) rfl ?_
  simp only [go_sem, xQ, ↓reduceIte, xA, xM, xL, xT, xE, xN, xP, xR, xS, h1, h2, h3, h4, hso]
  refine appB_sl (appT_sl el58 tk138 by138 el58 (by decide) rfl (by decide)) hD hG rfl rfl (by omega) (fun a' σ2 hD2 hO hG2 => ?_)
  have e2 : σ2 b2 = some (.row [int 0, .v (.slice none 0 0)] 2 1) := by
   rw [hO b2 (hG.neS hs2 (by decide)) (by simp [hs2]), hs2]
  have eo : σ2 bo = some (.row [int f.vars, a] 2 1) := by
   rw [hO bo (hG.neS hso (by decide)) (by simp [hso]), hso]
  have hc2 := hG2.cellsX
  have ho2 := hG2.oneX
  simp only [go_sem, xQ, ↓reduceIte, xA, xM, xL, xT, xE, xN, xP, xR, xS, h1, h2, h3, h4, e2, eo, hc2, ho2, hne', hlt]
  refine ⟨by rw [wrap_succ _ (by omega)], hD2.upd hbo, a', by simp only [go_sem, xQ, ↓reduceIte, xA, xM, xL, xT, xE, xN, xP, xR, xS, upd_same], ?_⟩
  rw [take_succ hx, List.flatMap_append]
  have := hG2.updW (hG2.neS eo (by decide)) (some (.row [int f.vars, a'] 2 1))
  simpa [ndC, slI, int] using this
 ·subst hk
  have ho := hG.oneX
  rw [List.take_length] at hG
  simp only [go_sem, xQ, ↓reduceIte, xA, xM, xL, xT, xE, xN, xP, xR, xS, h1, h2, h3, h4, Nat.lt_irrefl, hs2, hso, hne, ho]
  exact hK a _ (hD.upd hb2) (hG.updW (hG.neS hs2 (by decide)) _)
/-! ### Always, Opposite -/
/-! ### Joined -/
end Go.AL
