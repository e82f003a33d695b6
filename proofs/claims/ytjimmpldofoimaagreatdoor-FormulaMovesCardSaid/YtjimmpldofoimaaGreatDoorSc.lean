/- The node of a line. -/
import Derived.Test.YtjimmpldofoimaaGreatDoorSa
import Derived.Test.YtjimmpldofoimaaGreatDoorSb
import Derived.Test.YtjimmpldofoimaaGreatDoorXc
open Nat renaming reduceEqDiff → xQ, reduceAdd → xA, reduceMul → xM, reduceLeDiff → xL
open Int renaming reduceLT → xT, reduceLE → xE, reduceToNat → xN
open Go.AL renaming retPost_one → xP, retPost_oneN → xR, ers_at' → xS
set_option linter.unusedVariables false
set_option linter.unusedSimpArgs false
namespace Go.AL
open Go.Proofs
variable {Γ : Glob}
attribute [local irreducible] codeW opsW dopsW
def kindsL : List (ByteArray × Int) := [(bGe, 0), (bEq, 1), (bNot, 2), (bAnd, 3), (bOr, 4)]
theorem us340 : Tryz.prog.underlying 340 = some (.map 9 3) := by kernel_rfl
theorem zv3 (w : World) : (zeroValue 3).run Tryz.prog w = .ok (.int .i64 0) w := Tryz.zeroValue3 w
theorem kinds_fresh (k : Nat) (p : ByteArray × Int) (h : kindsL[k]? = some p) : getS (kindsL.take k) p.1 = none := by
  match k, h with
  | 0, h => cases h; rfl
  | 1, h => cases h; decide
  | 2, h => cases h; decide
  | 3, h => cases h; decide
  | 4, h => cases h; decide
  | k + 5, h => simp [kindsL] at h
theorem f248 (hG : Γ 0 = some sortsT) (σ : Sig) : ACalls Tryz.prog Γ 248 [] σ fun r σ' => ∃ b, σ b = none ∧ r = .v (.map (some b)) ∧ σ' = upd σ b (some (.map (strM kindsL))) := by
  refine acalls (ok248 Γ) ?_
  simp only [go_sem, xQ, ↓reduceIte, xA, xM, xL, xT, xE, xN, xP, xR, xS, Tryz.f248]
  intro b hb
  simp only [go_sem, xQ, ↓reduceIte, xA, xM, xL, xT, xE, xN, xP, xR, xS]
  refine SemC.loopK mixed 5 (fun k ρ σ' ds => ds = [] ∧ ρ 1 = .v (.map (some b)) ∧ ρ 4 = int k ∧ σ' = upd σ b (some (.map (strM (kindsL.take k))))) (by kernel_rfl) ⟨rfl, rfl, rfl, rfl⟩ ?_
  rintro k ρ σ' ds hk ⟨rfl, h1, h4, rfl⟩
  by_cases hk5 : k < 5
  · obtain ⟨p, hp⟩ : ∃ p, kindsL[k]? = some p := ⟨kindsL[k]'hk5, List.getElem?_eq_getElem _⟩
    have hf := kinds_fresh k p hp
    have hk5' : (k : Int) < 5 := by omega
    have key : ∀ ρ' : Env, ρ' 1 = .v (.map (some b)) → ρ' 4 = int k → True := fun _ _ _ => trivial
    have hgx : (sortsT)[k * 3]? = some (str p.1) ∧ p.2 = k := by
      match k, hp with
      | 0, hp => cases hp; exact ⟨rfl, rfl⟩
      | 1, hp => cases hp; exact ⟨rfl, rfl⟩
      | 2, hp => cases hp; exact ⟨rfl, rfl⟩
      | 3, hp => cases hp; exact ⟨rfl, rfl⟩
      | 4, hp => cases hp; exact ⟨rfl, rfl⟩
      | k + 5, hp => omega
    obtain ⟨g1, g2⟩ := hgx
    simp only [go_sem, xQ, ↓reduceIte, xA, xM, xL, xT, xE, xN, xP, xR, xS, h1, h4, hk5', hG, g1, Int.toNat_natCast, Nat.add_zero, Int.natCast_nonneg]
    refine mupB_str us340 us9 (upd_same _ _ _) hf ?_
    simp only [go_sem, xQ, ↓reduceIte, xA, xM, xL, xT, xE, xN, xP, xR, xS, h1, h4]
    refine ⟨by omega, by rw [wrap_succ _ (by omega)], ?_⟩
    rw [take_succ hp, ← g2]
  · have : k = 5 := by omega
    subst this
    simp only [go_sem, xQ, ↓reduceIte, xA, xM, xL, xT, xE, xN, xP, xR, xS, h1, h4]
    exact ⟨b, hb, rfl, rfl⟩
def kindO (w : List UInt8) : Option Int := getS kindsL (bts w)
def nd0 : Nd := ⟨0, ⟨[], 0⟩, []⟩
theorem kindO_le {w : List UInt8} {k : Int} (h : kindO w = some k) : 0 ≤ k ∧ k ≤ 4 := by
  simp only [kindO, kindsL, getS] at h
  repeat' split at h
  all_goals first | (cases h; omega) | cases h
noncomputable def nodeO (w : List UInt8) (W : List (List UInt8)) : Option Nd := match kindO w, intsO 13 W with
  | some k, some l => if k ≤ 1 then (if l = [] then none else some ⟨k, ⟨l.take (l.length - 1), (l[l.length - 1]?).getD 0⟩, []⟩) else some ⟨k, ⟨[], 0⟩, l⟩
  | _, _ => none
noncomputable def nodeR (o : Option Nd) : AV := .tup [ndA (o.getD nd0), .v (.bool o.isSome)]
theorem strs_take (W : List (List UInt8)) : (strs (W.map bts)).take W.length = strs (W.map bts) := List.take_of_length_le (by simp [strs])
theorem snoc_of {α : Type} {l : List α} (h : l ≠ []) : ∃ l' z, l = l' ++ [z] := ⟨l.dropLast, l.getLast h, (List.dropLast_concat_getLast h).symm⟩
theorem slW_cons (w : List UInt8) (W : List (List UInt8)) : slW (w :: W) = .sl (str (bts w) :: strs (W.map bts)) (W.length + 1) := by
  rw [slW, slStr, List.map_cons, List.length_cons, List.length_map]
  rfl
@[reducible] noncomputable def p198z (Γ : Glob) : Par := par Γ [2] [(1, [false, false, false, true]), (2000001, [true])] [(1, [0, 0, 2, 6, 15, 31, 63, 63, 127, 511]), (7, [0, 0, 0, 0, 14, 0, 0, 96, 224, 510, 1023, 2047, 4095])]
theorem ok198z (Γ : Glob) : FnOk (p198z Γ) 198 62 (Tryz.f198.body.getD .skip) Tryz.f198.results.toList 1 := fnOk (par_mixed _ _ _ _) Tryz.func198 rfl rfl rfl (by kernel_rfl) (Nat.le_of_ble_eq_true rfl) (by kernel_rfl)
set_option maxHeartbeats 2000000 in
theorem f198 (hG : Γ 0 = some sortsT) (w : List UInt8) (W : List (List UInt8)) (hW : W.length ≤ 1000000) (hw : ∀ w ∈ W, w.length ≤ 1000000) : PCalls Tryz.prog Γ 198 [slW (w :: W)] (nodeR (nodeO w W)) := by
  refine pcalls (ok198z Γ) fun σ => ?_
  rw [slW_cons]
  simp only [go_sem, xQ, ↓reduceIte, xA, xM, xL, xT, xE, xN, xP, xR, xS, Tryz.f198]
  intro b2 hb2
  simp only [go_sem, xQ, ↓reduceIte, xA, xM, xL, xT, xE, xN, xP, xR, xS]
  refine callB_a (ACalls.mono (f248 hG _) (fun r σ2 h => ?_)) rfl
  obtain ⟨b, hb, rfl, rfl⟩ := h
  obtain ⟨n2, hb⟩ := un hb
  have n2' : ¬ b2 = b := fun e => n2 e.symm
  refine ⟨fun b' cs c h => by
    have : b' ≠ b := fun e => by rw [e, upd_ne _ _ _ _ n2, hb] at h; cases h
    rw [upd_ne _ _ _ _ this]; exact h, ?_⟩
  have g0 : (0 : Int) < ((W.length + 1 : Nat) : Int) := by omega
  have g1 : (1 : Int) ≤ ((W.length + 1 : Nat) : Int) := by omega
  simp only [go_sem, xQ, ↓reduceIte, xA, xM, xL, xT, xE, xN, xP, xR, xS, n2, n2', g0]
  refine lookB_str us340 us9 zv3 (upd_same _ _ _) ?_
  obtain ⟨o, ho⟩ : ∃ o, kindO w = o := ⟨_, rfl⟩
  rw [kindO] at ho
  rw [ho]
  simp only [go_sem, xQ, ↓reduceIte, xA, xM, xL, xT, xE, xN, xP, xR, xS, n2, n2', g0, g1]
  refine callB_use (f197 W hW hw) (by simp [slW, slStr, strs_take]) ?_
  rw [intsR]
  have hN : nodeO w W = (match (generalizing := false) o, intsO 13 W with
    | some k, some l => if k ≤ 1 then (if l = [] then none else some ⟨k, ⟨l.take (l.length - 1), (l[l.length - 1]?).getD 0⟩, []⟩) else some ⟨k, ⟨[], 0⟩, l⟩
    | _, _ => none) := by rw [nodeO, kindO, ho]
  have hkb : ∀ k, o = some k → 0 ≤ k ∧ k ≤ 4 := fun k hk => kindO_le (w := w) (by rw [kindO, ho, hk])
  rw [hN]
  clear hN
  cases o with
  | none =>
    simp only [go_sem, xQ, ↓reduceIte, xA, xM, xL, xT, xE, xN, xP, xR, xS, n2, n2', Option.isSome_none, Option.getD_none]
    exact ⟨.tup (.cons (.agg (.cons (.refl _) (.cons .nil (.cons (.refl _) (.cons .nil .nil))))) (.cons (.refl _) .nil)), by repeat (first | exact Drop.refl _ | assumption | refine Drop.upd ?_ (by assumption))⟩
  | some k =>
    obtain ⟨k0, k4⟩ := hkb k rfl
    have hk : k = 0 ∨ k = 1 ∨ k = 2 ∨ k = 3 ∨ k = 4 := by omega
    rcases hk with rfl | rfl | rfl | rfl | rfl
    · cases hi : intsO 13 W with
      | none =>
        simp only [go_sem, xQ, ↓reduceIte, xA, xM, xL, xT, xE, xN, xP, xR, xS, n2, n2', hG, sortsT, Option.isSome_some, Option.isSome_none, Option.getD_some, Option.getD_none]
        exact ⟨.tup (.cons (.agg (.cons (.refl _) (.cons .nil (.cons (.refl _) (.cons .nil .nil))))) (.cons (.refl _) .nil)), by repeat (first | exact Drop.refl _ | assumption | refine Drop.upd ?_ (by assumption))⟩
      | some l =>
        by_cases hl : l = []
        · subst hl
          have e0 : ((([] : List Int).length : Nat) : Int) = 0 := rfl
          simp only [go_sem, xQ, ↓reduceIte, xA, xM, xL, xT, xE, xN, xP, xR, xS, n2, n2', hG, sortsT, Option.isSome_some, Option.getD_some, e0]
          exact ⟨.tup (.cons (.agg (.cons (.refl _) (.cons .nil (.cons (.refl _) (.cons .nil .nil))))) (.cons (.refl _) .nil)), by repeat (first | exact Drop.refl _ | assumption | refine Drop.upd ?_ (by assumption))⟩
        · obtain ⟨l', z, rfl⟩ := snoc_of hl
          have hll := intsO_len 13 W _ hi
          simp only [List.length_append, List.length_cons, List.length_nil] at hll
          have e6 : ¬ (some (Operand.tmp 50) = (none : Option Operand)) := by intro h; cases h
          have e0 : ¬ (((l' ++ [z]).length : Nat) : Int) = 0 := by simp only [List.length_append, List.length_cons, List.length_nil]; omega
          have e1 : IntKind.i64.wrap ((((l' ++ [z]).length : Nat) : Int) - 1) = (l'.length : Int) := by
            simp only [List.length_append, List.length_cons, List.length_nil]; rw [wrap_i64 _ (by omega) (by omega)]; omega
          have e2 : (l'.length : Int) ≤ (((l' ++ [z]).length : Nat) : Int) := by simp only [List.length_append, List.length_cons, List.length_nil]; omega
          have e3 : (l'.length : Int) < (((l' ++ [z]).length : Nat) : Int) := by simp only [List.length_append, List.length_cons, List.length_nil]; omega
          have e4 : (ints (l' ++ [z]))[l'.length]? = some (int z) := by simp [ints]
          have e5 : (ints (l' ++ [z])).take l'.length = ints l' := by simp [ints, List.take_append]
          simp only [go_sem, xQ, ↓reduceIte, xA, xM, xL, xT, xE, xN, xP, xR, xS, n2, n2', hG, sortsT, Option.isSome_some, Option.getD_some, e0, e1, e2, e3, e4, e5, e6, slI, Int.toNat_natCast, Nat.add_zero, Nat.sub_zero]
          have hr : (if (0 : Int) ≤ 1 then (if l' ++ [z] = [] then none else some (⟨0, ⟨(l' ++ [z]).take ((l' ++ [z]).length - 1), ((l' ++ [z])[(l' ++ [z]).length - 1]?).getD 0⟩, []⟩ : Nd)) else some ⟨0, ⟨[], 0⟩, l' ++ [z]⟩) = some ⟨0, ⟨l', z⟩, []⟩ := by simp
          by_cases hz : (l'.length : Int) = 0
          · have hz' : l' = [] := List.eq_nil_of_length_eq_zero (by omega)
            subst hz'
            simp only [go_sem, xQ, ↓reduceIte, xA, xM, xL, xT, xE, xN, xP, xR, xS, n2, n2', hG, sortsT, hz, e0, e1, e2, e3, e4, e5, slI, Int.toNat_natCast, Nat.add_zero, Nat.sub_zero]
            show retP σ (nodeR (if (0 : Int) ≤ 1 then (if [] ++ [z] = [] then none else some (⟨0, ⟨([] ++ [z]).take (([] ++ [z]).length - 1), (([] ++ [z])[([] ++ [z]).length - 1]?).getD 0⟩, []⟩ : Nd)) else some ⟨0, ⟨[], 0⟩, [] ++ [z]⟩)) _ _
            rw [hr]
            exact ⟨.tup (.cons (.agg (.cons (.refl _) (.cons .e0 (.cons (.refl _) (.cons .nil .nil))))) (.cons (.refl _) .nil)), by repeat (first | exact Drop.refl _ | assumption | refine Drop.upd ?_ (by assumption))⟩
          · simp only [go_sem, xQ, ↓reduceIte, xA, xM, xL, xT, xE, xN, xP, xR, xS, n2, n2', hG, sortsT, hz, e0, e1, e2, e3, e4, e5, slI, Int.toNat_natCast, Nat.add_zero, Nat.sub_zero]
            show retP σ (nodeR (if (0 : Int) ≤ 1 then (if l' ++ [z] = [] then none else some (⟨0, ⟨(l' ++ [z]).take ((l' ++ [z]).length - 1), ((l' ++ [z])[(l' ++ [z]).length - 1]?).getD 0⟩, []⟩ : Nd)) else some ⟨0, ⟨[], 0⟩, l' ++ [z]⟩)) _ _
            rw [hr]
            exact ⟨.tup (.cons (.agg (.cons (.refl _) (.cons (.refl _) (.cons (.refl _) (.cons .nil .nil))))) (.cons (.refl _) .nil)), by repeat (first | exact Drop.refl _ | assumption | refine Drop.upd ?_ (by assumption))⟩
    · cases hi : intsO 13 W with
      | none =>
        simp only [go_sem, xQ, ↓reduceIte, xA, xM, xL, xT, xE, xN, xP, xR, xS, n2, n2', hG, sortsT, Option.isSome_some, Option.isSome_none, Option.getD_some, Option.getD_none]
        exact ⟨.tup (.cons (.agg (.cons (.refl _) (.cons .nil (.cons (.refl _) (.cons .nil .nil))))) (.cons (.refl _) .nil)), by repeat (first | exact Drop.refl _ | assumption | refine Drop.upd ?_ (by assumption))⟩
      | some l =>
        by_cases hl : l = []
        · subst hl
          have e0 : ((([] : List Int).length : Nat) : Int) = 0 := rfl
          simp only [go_sem, xQ, ↓reduceIte, xA, xM, xL, xT, xE, xN, xP, xR, xS, n2, n2', hG, sortsT, Option.isSome_some, Option.getD_some, e0]
          exact ⟨.tup (.cons (.agg (.cons (.refl _) (.cons .nil (.cons (.refl _) (.cons .nil .nil))))) (.cons (.refl _) .nil)), by repeat (first | exact Drop.refl _ | assumption | refine Drop.upd ?_ (by assumption))⟩
        · obtain ⟨l', z, rfl⟩ := snoc_of hl
          have hll := intsO_len 13 W _ hi
          simp only [List.length_append, List.length_cons, List.length_nil] at hll
          have e6 : ¬ (some (Operand.tmp 50) = (none : Option Operand)) := by intro h; cases h
          have e0 : ¬ (((l' ++ [z]).length : Nat) : Int) = 0 := by simp only [List.length_append, List.length_cons, List.length_nil]; omega
          have e1 : IntKind.i64.wrap ((((l' ++ [z]).length : Nat) : Int) - 1) = (l'.length : Int) := by
            simp only [List.length_append, List.length_cons, List.length_nil]; rw [wrap_i64 _ (by omega) (by omega)]; omega
          have e2 : (l'.length : Int) ≤ (((l' ++ [z]).length : Nat) : Int) := by simp only [List.length_append, List.length_cons, List.length_nil]; omega
          have e3 : (l'.length : Int) < (((l' ++ [z]).length : Nat) : Int) := by simp only [List.length_append, List.length_cons, List.length_nil]; omega
          have e4 : (ints (l' ++ [z]))[l'.length]? = some (int z) := by simp [ints]
          have e5 : (ints (l' ++ [z])).take l'.length = ints l' := by simp [ints, List.take_append]
          simp only [go_sem, xQ, ↓reduceIte, xA, xM, xL, xT, xE, xN, xP, xR, xS, n2, n2', hG, sortsT, Option.isSome_some, Option.getD_some, e0, e1, e2, e3, e4, e5, e6, slI, Int.toNat_natCast, Nat.add_zero, Nat.sub_zero]
          have hr : (if (1 : Int) ≤ 1 then (if l' ++ [z] = [] then none else some (⟨1, ⟨(l' ++ [z]).take ((l' ++ [z]).length - 1), ((l' ++ [z])[(l' ++ [z]).length - 1]?).getD 0⟩, []⟩ : Nd)) else some ⟨1, ⟨[], 0⟩, l' ++ [z]⟩) = some ⟨1, ⟨l', z⟩, []⟩ := by simp
          by_cases hz : (l'.length : Int) = 0
          · have hz' : l' = [] := List.eq_nil_of_length_eq_zero (by omega)
            subst hz'
            simp only [go_sem, xQ, ↓reduceIte, xA, xM, xL, xT, xE, xN, xP, xR, xS, n2, n2', hG, sortsT, hz, e0, e1, e2, e3, e4, e5, slI, Int.toNat_natCast, Nat.add_zero, Nat.sub_zero]
            show retP σ (nodeR (if (1 : Int) ≤ 1 then (if [] ++ [z] = [] then none else some (⟨1, ⟨([] ++ [z]).take (([] ++ [z]).length - 1), (([] ++ [z])[([] ++ [z]).length - 1]?).getD 0⟩, []⟩ : Nd)) else some ⟨1, ⟨[], 0⟩, [] ++ [z]⟩)) _ _
            rw [hr]
            exact ⟨.tup (.cons (.agg (.cons (.refl _) (.cons .e0 (.cons (.refl _) (.cons .nil .nil))))) (.cons (.refl _) .nil)), by repeat (first | exact Drop.refl _ | assumption | refine Drop.upd ?_ (by assumption))⟩
          · simp only [go_sem, xQ, ↓reduceIte, xA, xM, xL, xT, xE, xN, xP, xR, xS, n2, n2', hG, sortsT, hz, e0, e1, e2, e3, e4, e5, slI, Int.toNat_natCast, Nat.add_zero, Nat.sub_zero]
            show retP σ (nodeR (if (1 : Int) ≤ 1 then (if l' ++ [z] = [] then none else some (⟨1, ⟨(l' ++ [z]).take ((l' ++ [z]).length - 1), ((l' ++ [z])[(l' ++ [z]).length - 1]?).getD 0⟩, []⟩ : Nd)) else some ⟨1, ⟨[], 0⟩, l' ++ [z]⟩)) _ _
            rw [hr]
            exact ⟨.tup (.cons (.agg (.cons (.refl _) (.cons (.refl _) (.cons (.refl _) (.cons .nil .nil))))) (.cons (.refl _) .nil)), by repeat (first | exact Drop.refl _ | assumption | refine Drop.upd ?_ (by assumption))⟩
    · cases hi : intsO 13 W with
      | none =>
        simp only [go_sem, xQ, ↓reduceIte, xA, xM, xL, xT, xE, xN, xP, xR, xS, n2, n2', hG, sortsT, Option.isSome_some, Option.isSome_none, Option.getD_some, Option.getD_none]
        exact ⟨.tup (.cons (.agg (.cons (.refl _) (.cons .nil (.cons (.refl _) (.cons .nil .nil))))) (.cons (.refl _) .nil)), by repeat (first | exact Drop.refl _ | assumption | refine Drop.upd ?_ (by assumption))⟩
      | some l =>
        simp only [go_sem, xQ, ↓reduceIte, xA, xM, xL, xT, xE, xN, xP, xR, xS, n2, n2', hG, sortsT, Option.isSome_some, Option.getD_some]
        exact ⟨.tup (.cons (.agg (.cons (.refl _) (.cons .nil (.cons (.refl _) (.cons (.refl _) .nil))))) (.cons (.refl _) .nil)), by repeat (first | exact Drop.refl _ | assumption | refine Drop.upd ?_ (by assumption))⟩
    · cases hi : intsO 13 W with
      | none =>
        simp only [go_sem, xQ, ↓reduceIte, xA, xM, xL, xT, xE, xN, xP, xR, xS, n2, n2', hG, sortsT, Option.isSome_some, Option.isSome_none, Option.getD_some, Option.getD_none]
        exact ⟨.tup (.cons (.agg (.cons (.refl _) (.cons .nil (.cons (.refl _) (.cons .nil .nil))))) (.cons (.refl _) .nil)), by repeat (first | exact Drop.refl _ | assumption | refine Drop.upd ?_ (by assumption))⟩
      | some l =>
        simp only [go_sem, xQ, ↓reduceIte, xA, xM, xL, xT, xE, xN, xP, xR, xS, n2, n2', hG, sortsT, Option.isSome_some, Option.getD_some]
        exact ⟨.tup (.cons (.agg (.cons (.refl _) (.cons .nil (.cons (.refl _) (.cons (.refl _) .nil))))) (.cons (.refl _) .nil)), by repeat (first | exact Drop.refl _ | assumption | refine Drop.upd ?_ (by assumption))⟩
    · cases hi : intsO 13 W with
      | none =>
        simp only [go_sem, xQ, ↓reduceIte, xA, xM, xL, xT, xE, xN, xP, xR, xS, n2, n2', hG, sortsT, Option.isSome_some, Option.isSome_none, Option.getD_some, Option.getD_none]
        exact ⟨.tup (.cons (.agg (.cons (.refl _) (.cons .nil (.cons (.refl _) (.cons .nil .nil))))) (.cons (.refl _) .nil)), by repeat (first | exact Drop.refl _ | assumption | refine Drop.upd ?_ (by assumption))⟩
      | some l =>
        simp only [go_sem, xQ, ↓reduceIte, xA, xM, xL, xT, xE, xN, xP, xR, xS, n2, n2', hG, sortsT, Option.isSome_some, Option.getD_some]
        exact ⟨.tup (.cons (.agg (.cons (.refl _) (.cons .nil (.cons (.refl _) (.cons (.refl _) .nil))))) (.cons (.refl _) .nil)), by repeat (first | exact Drop.refl _ | assumption | refine Drop.upd ?_ (by assumption))⟩
end Go.AL

/- Formulas read from strings: what both parsers do, told plainly. -/
set_option linter.unusedVariables false
set_option linter.unusedSimpArgs false
namespace Go.AL
open Go.Proofs
theorem linesR_get : ∀ (rows : List (List UInt8)) (k : Nat) (x : List UInt8), (linesR rows)[k]? = some x → ∃ r rs, rows.drop k = r :: rs ∧ ((rs ≠ [] ∧ x = r ++ [10]) ∨ (rs = [] ∧ x = r ∧ r ≠ []))
  | [], k, x, h => by simp [linesR] at h
  | [r], k, x, h => by
    rw [linesR] at h
    split at h
    · simp at h
    · rename_i hr
      cases k with
      | zero =>
        simp at h
        subst h
        exact ⟨_, [], rfl, .inr ⟨rfl, rfl, hr⟩⟩
      | succ k => simp at h
  | r :: r' :: rs, k, x, h => by
    rw [linesR_two] at h
    cases k with
    | zero =>
      simp at h
      subst h
      exact ⟨r, r' :: rs, rfl, .inl ⟨by simp, rfl⟩⟩
    | succ k =>
      rw [List.getElem?_cons_succ] at h
      rw [List.drop_succ_cons]
      exact linesR_get (r' :: rs) k x h
theorem linesR_end : ∀ (rows : List (List UInt8)), rows.drop (linesR rows).length ≠ [] → rows.drop (linesR rows).length = [[]]
  | [], h => by simp [linesR] at h
  | [r], h => by
    rw [linesR] at h ⊢
    by_cases hr : r = []
    · subst hr; rfl
    · rw [if_neg hr] at h; simp at h
  | r :: r' :: rs, h => by
    rw [linesR_two, List.length_cons, List.drop_succ_cons] at h ⊢
    exact linesR_end (r' :: rs) h
def bVarsL : List UInt8 := [118, 97, 114, 115]
noncomputable def headO (w : List UInt8) (W : List (List UInt8)) : Option Int := if w = bVarsL then (match intsO 13 W with
  | some [v] => some v
  | _ => none) else none
/-- The formula of lines, the number of the first wrong one, the error. -/
noncomputable def parL : List (List UInt8) → Nat → Fm → Fm × Int × Int
  | [], i, f => (fm0, i, 23)
  | r :: rs, i, f => match rs with
    | [] => if r = [] ∧ i ≠ 0 then (if checkE f = 0 then (f, 0, 0) else (fm0, i, checkE f)) else (fm0, i, 23)
    | r' :: rs' => match cutL 32 r with
      | [] => (fm0, i, 23)
      | w :: W => if i = 0 then (match headO w W with
          | some v => parL (r' :: rs') 1 ⟨v, f.nodes⟩
          | none => (fm0, 0, 23))
        else (match nodeO w W with
          | some n => parL (r' :: rs') (i + 1) ⟨f.vars, f.nodes ++ [n]⟩
          | none => (fm0, i, 23))
noncomputable def parR (s : ByteArray) : Fm × Int × Int := if (16384 : Int) < s.size then (fm0, 0, 24) else parL (cutL 10 s.data.toList) 0 fm0
theorem parL_last {i : Nat} {f : Fm} (h : i ≠ 0) : parL [[]] i f = if checkE f = 0 then (f, 0, 0) else (fm0, (i : Int), checkE f) := by
  rw [parL]
  simp [h]
theorem parL_zero {f : Fm} : parL [[]] 0 f = (fm0, 0, 23) := by
  rw [parL]
  simp
theorem parL_bad {i : Nat} {f : Fm} {r : List UInt8} (h : r ≠ []) : parL [r] i f = (fm0, (i : Int), 23) := by
  rw [parL]
  simp [h]
theorem parL_head {f : Fm} {r : List UInt8} {rs : List (List UInt8)} {w : List UInt8} {W : List (List UInt8)} (h : rs ≠ []) (hc : cutL 32 r = w :: W) : parL (r :: rs) 0 f = (match headO w W with
    | some v => parL rs 1 ⟨v, f.nodes⟩
    | none => (fm0, 0, 23)) := by
  obtain ⟨r', rs', rfl⟩ := List.exists_cons_of_ne_nil h
  rw [parL, hc]
  simp
theorem parL_node {i : Nat} {f : Fm} {r : List UInt8} {rs : List (List UInt8)} {w : List UInt8} {W : List (List UInt8)} (h : rs ≠ []) (hi : i ≠ 0) (hc : cutL 32 r = w :: W) : parL (r :: rs) i f = (match nodeO w W with
    | some n => parL rs (i + 1) ⟨f.vars, f.nodes ++ [n]⟩
    | none => (fm0, (i : Int), 23)) := by
  obtain ⟨r', rs', rfl⟩ := List.exists_cons_of_ne_nil h
  rw [parL, hc]
  simp [hi]
theorem nodeO_fit {w : List UInt8} {W : List (List UInt8)} {n : Nd} (h : nodeO w W = some n) (hW : W.length ≤ 1000000) : NdFit n := by
  rw [nodeO] at h
  cases hk : kindO w with
  | none => rw [hk] at h; cases h
  | some k =>
    cases hl : intsO 13 W with
    | none => rw [hk, hl] at h; cases h
    | some l =>
      have := intsO_len 13 W l hl
      rw [hk, hl] at h
      simp only at h
      repeat' split at h
      all_goals first | (cases h; done) | (cases h; unfold NdFit; simp only [List.length_take, List.length_nil]; omega)
end Go.AL

/- Parse of formulas, of the library. -/
set_option linter.unusedVariables false
set_option linter.unusedSimpArgs false
namespace Go.AL
open Go.Proofs
variable {Γ : Glob}
attribute [local irreducible] codeW opsW dopsW
theorem linesR_len : ∀ rows : List (List UInt8), (linesR rows).length ≤ rows.length
  | [] => Nat.le_refl _
  | [r] => by
    rw [linesR]
    split <;> simp
  | r :: r' :: rs => by
    have := linesR_len (r' :: rs)
    rw [linesR_two, List.length_cons, List.length_cons]
    omega
/-- A row that is no cell of a string. -/
def noLine (cs : List AV) (s : Nat) : Prop := s ≠ 1 ∨ ∃ n, cs = [int n]
theorem no_line {cs : List AV} {s c : Nat} (h : noLine cs s) : ¬ lineC (.row cs s c) := fun ⟨x, e⟩ => by
  cases e
  rcases h with h | ⟨n, h⟩
  · exact h rfl
  · cases h
theorem no_lineE {b b' : Nat} {cs : List AV} {s c : Nat} (h : noLine cs s) : ¬ lineE b b' (.row cs s c) := fun e => no_line h e.2
theorem no_lineK {cs : List AV} {s c : Nat} (h : noLine cs s) : ¬ KD lineC (.row cs s c) := fun e => e.elim (fun h => h) (no_line h)
theorem keep_cell {σ σ' : Sig} {b : Nat} {cs : List AV} {s c : Nat} {y : Option Blk} (hk : Keep (KD lineC) σ σ') (hb : σ b = some (.row cs s c)) (hn : noLine cs s) : Keep (KD lineC) σ (upd σ' b y) := hk.upd fun x hx => by
  rw [hb] at hx
  cases hx
  exact no_lineK hn
theorem keep_app {σ0 σ σ2 : Sig} {s n : Nat} {a : AV} {cs : List AV} (hO : Others a σ σ2) (hG : Grow σ0 σ s a cs n) (hs : s ≠ 1) : Keep (KD lineC) σ σ2 := fun b x hb hx => by
  rw [hO b ?_ (by rw [hb]; simp)]
  · exact hb
  · intro s1 o m e
    rcases hG with ⟨h, _⟩ | ⟨b', c, h0, h1, h2, h3⟩
    · rcases h with rfl | rfl <;> cases e
    · rw [e] at h0
      cases h0
      rw [h2] at hb
      cases hb
      exact no_lineK (.inl hs) hx
theorem Grow.toNo2 {σ0 σ : Sig} {s n : Nat} {a : AV} {cs : List AV} (h : Grow σ0 σ s a cs n) : Fz σ noB a (.sl cs n) := by
  rcases h with ⟨h, rfl, rfl⟩ | ⟨b, c, rfl, h1, h2, h3⟩
  · rcases h with rfl | rfl
    · exact .nil
    · exact .e0
  · refine .own h2 rfl ?_
    have : (cs.drop (0 * s)).take (n * s) = cs := by simp [← h3]
    rw [this]
    exact .refl cs
set_option maxHeartbeats 8000000 in
set_option maxRecDepth 20000 in
theorem f107 (hG : Γ 0 = some sortsT) (s : ByteArray) (hs : s.size ≤ 1000000) : PCalls Tryz.prog Γ 107 [str s] (.tup [fmA (parR s).1, int (parR s).2.1, int (parR s).2.2]) := by
  obtain ⟨rows, hrows⟩ : ∃ rows, cutL 10 s.data.toList = rows := ⟨_, rfl⟩
  have hrne : rows ≠ [] := hrows ▸ cutL_ne 10 _
  have hrm : ∀ r ∈ rows, (10 : UInt8) ∉ r ∧ r.length ≤ s.size := fun r hr => by
    rw [Lib.size_eq]
    exact cutL_mem 10 s.data.toList r (hrows ▸ hr)
  have hrl : rows.length ≤ s.size + 1 := by
    rw [← hrows, Lib.size_eq]
    exact cutL_len 10 _
  have hxs : linesX s = (linesR rows).map fun l => str (bts l) := by rw [linesX, linesL, hrows]
  refine pcalls (ok107 Γ) fun σ => ?_
  simp only [go_sem, xQ, ↓reduceIte, xA, xM, xL, xT, xE, xN, xP, xR, xS, Tryz.f107, str]
  intro b2 hb2
  simp only [go_sem, xQ, ↓reduceIte, xA, xM, xL, xT, xE, xN, xP, xR, xS]
  intro b3 hb3
  obtain ⟨n32, hb3'⟩ := un hb3
  have n23 : ¬ b2 = b3 := fun e => n32 e.symm
  simp only [go_sem, xQ, ↓reduceIte, xA, xM, xL, xT, xE, xN, xP, xR, xS]
  intro b4 hb4
  obtain ⟨n43, hb4'⟩ := un hb4
  obtain ⟨n42, hb4'⟩ := un hb4'
  have n34 : ¬ b3 = b4 := fun e => n43 e.symm
  have n24 : ¬ b2 = b4 := fun e => n42 e.symm
  by_cases h0 : (16384 : Int) < s.size
  · rw [parR, if_pos h0]
    simp only [go_sem, xQ, ↓reduceIte, xA, xM, xL, xT, xE, xN, xP, xR, xS, n32, n23, n43, n42, n34, n24, h0]
    exact ⟨.tup (.cons (.agg (.cons (.refl _) (.cons .nil .nil))) (.cons (.refl _) (.cons (.refl _) .nil))), by repeat (first | exact Drop.refl _ | assumption | refine Drop.upd ?_ (by assumption))⟩
  rw [parR, if_neg h0, hrows]
  simp only [go_sem, xQ, ↓reduceIte, xA, xM, xL, xT, xE, xN, xP, xR, xS, n32, n23, n43, n42, n34, n24, h0]
  intro b5 hb5
  obtain ⟨n54, hb5'⟩ := un hb5
  obtain ⟨n53, hb5'⟩ := un hb5'
  obtain ⟨n52, hb5'⟩ := un hb5'
  simp only [go_sem, xQ, ↓reduceIte, xA, xM, xL, xT, xE, xN, xP, xR, xS]
  intro b6 hb6
  obtain ⟨n65, hb6'⟩ := un hb6
  obtain ⟨n64, hb6'⟩ := un hb6'
  obtain ⟨n63, hb6'⟩ := un hb6'
  obtain ⟨n62, hb6'⟩ := un hb6'
  have N : (¬ b2 = b3 ∧ ¬ b3 = b2 ∧ ¬ b2 = b4 ∧ ¬ b4 = b2 ∧ ¬ b3 = b4 ∧ ¬ b4 = b3) ∧ (¬ b5 = b4 ∧ ¬ b4 = b5 ∧ ¬ b5 = b3 ∧ ¬ b3 = b5 ∧ ¬ b5 = b2 ∧ ¬ b2 = b5) ∧ ¬ b6 = b5 ∧ ¬ b5 = b6 ∧ ¬ b6 = b4 ∧ ¬ b4 = b6 ∧ ¬ b6 = b3 ∧ ¬ b3 = b6 ∧ ¬ b6 = b2 ∧ ¬ b2 = b6 :=
    ⟨⟨n23, n32, n24, n42, n34, n43⟩, ⟨n54, Ne.symm n54, n53, Ne.symm n53, n52, Ne.symm n52⟩, n65, Ne.symm n65, n64, Ne.symm n64, n63, Ne.symm n63, n62, Ne.symm n62⟩
  clear n23 n32 n24 n42 n34 n43 n54 n53 n52 n65 n64 n63 n62
  simp only [go_sem, xQ, ↓reduceIte, xA, xM, xL, xT, xE, xN, xP, xR, xS, N, upd_upd]
  refine callB_a (f185 s _ _ (fun bL hbL => ?_)) rfl
  simp only [go_sem, xQ, ↓reduceIte, xA, xM, xL, xT, xE, xN, xP, xR, xS, N]
  have hDs : Drop (upd (upd (upd (upd (upd (upd σ b2 (some (.row [int 0, .v (.slice none 0 0)] 2 1))) b3 (some (.row [int 0] 1 1))) b4 (some (.row [int 0] 1 1))) b5 (some (.row [int 0, .v (.slice none 0 0)] 2 1))) b6 (some (.row [int 0] 1 1))) bL (some (.row [str s] 1 1))) σ := by
    have := (un (un (un (un (un hbL).2).2).2).2).2
    repeat (first | exact Drop.refl _ | assumption | refine Drop.upd ?_ (by assumption))
  have hLs : σ bL = none := (un (un (un (un (un hbL).2).2).2).2).2
  have hDe : ∀ b x y, σ b = some x → ¬ lineE bL b y := fun b x y hx h => by rw [h.1, hLs] at hx; cases hx
  have nL : ¬ b2 = bL ∧ ¬ b3 = bL ∧ ¬ b4 = bL ∧ ¬ b5 = bL ∧ ¬ b6 = bL := by
    obtain ⟨m6, h⟩ := un hbL
    obtain ⟨m5, h⟩ := un h
    obtain ⟨m4, h⟩ := un h
    obtain ⟨m3, h⟩ := un h
    obtain ⟨m2, h⟩ := un h
    exact ⟨Ne.symm m2, Ne.symm m3, Ne.symm m4, Ne.symm m5, Ne.symm m6⟩
  refine SemC.rangeB (xs := linesX s) (D := lineC) (E := lineE bL) (pre := fun σ => σ bL = some (.row [str s] 1 1)) (f := 239) (first := []) (captured := [.v (.pointer (some ⟨bL, 0, none⟩))]) mixed (by simp only [go_sem, xQ, ↓reduceIte, xA, xM, xL, xT, xE, xN, xP, xR, xS]) (f239 s hs bL) (by decide) (by kernel_rfl) (by kernel_rfl) line_ctl (fun _ x h => line_ctl x h.2) (fun b1 c1 x y h1 h2 => ?_)
    (fun k σ' => ∃ f a, (parL rows 0 fm0 = parL (rows.drop k) k f ∧ rows.drop k ≠ [] ∧ f.nodes.length ≤ k ∧ (∀ n ∈ f.nodes, NdFit n)) ∧ σ' b2 = some (.row [int 0, .v (.slice none 0 0)] 2 1) ∧ σ' b3 = some (.row [int 0] 1 1) ∧ σ' b4 = some (.row [int 0] 1 1) ∧ σ' b5 = some (.row [int f.vars, a] 2 1) ∧ σ' b6 = some (.row [int k] 1 1) ∧ Grow σ σ' 4 a (f.nodes.flatMap ndC) f.nodes.length ∧ Drop σ' σ)
    (fun e σ' => ∃ i : Int, (e = .ret ∧ parL rows 0 fm0 = (fm0, i, 23)) ∧ σ' b2 = some (.row [int 0, .v (.slice none 0 0)] 2 1) ∧ σ' b3 = some (.row [int i] 1 1) ∧ σ' b4 = some (.row [int 23] 1 1) ∧ Drop σ' σ)
    (fun k x ρ1 σ1 => ∃ l f a, ((linesR rows)[k]? = some l ∧ (ρ1 2 = .v (.pointer (some ⟨b2, 0, none⟩)) ∧ ρ1 3 = .v (.pointer (some ⟨b3, 0, none⟩)) ∧ ρ1 4 = .v (.pointer (some ⟨b4, 0, none⟩)) ∧ ρ1 5 = .v (.pointer (some ⟨b5, 0, none⟩)) ∧ ρ1 6 = .v (.pointer (some ⟨b6, 0, none⟩)) ∧ ρ1 7 = str (bts l)) ∧ parL rows 0 fm0 = parL (rows.drop k) k f ∧ f.nodes.length ≤ k ∧ (∀ n ∈ f.nodes, NdFit n)) ∧ σ1 b2 = some (.row [int 0, .v (.slice none 0 0)] 2 1) ∧ σ1 b3 = some (.row [int 0] 1 1) ∧ σ1 b4 = some (.row [int 0] 1 1) ∧ σ1 b5 = some (.row [int f.vars, a] 2 1) ∧ σ1 b6 = some (.row [int k] 1 1) ∧ Grow σ σ1 4 a (f.nodes.flatMap ndC) f.nodes.length ∧ Drop σ1 σ)
    (by (intros; repeat' (first | exact ClosedB.row (fun _ => no_lineE (.inr ⟨_, rfl⟩)) | exact ClosedB.row (fun _ => no_lineE (.inl (by decide))) | exact ClosedB.grow (fun _ _ => no_lineE (.inl (by decide))) | exact ClosedB.drop hDs hDe | exact ClosedB.const _ | refine ClosedB.ex fun _ => ?_ | refine ClosedB.and ?_ ?_))) (by (intros; repeat' (first | exact ClosedB.row (fun _ => no_lineE (.inr ⟨_, rfl⟩)) | exact ClosedB.row (fun _ => no_lineE (.inl (by decide))) | exact ClosedB.grow (fun _ _ => no_lineE (.inl (by decide))) | exact ClosedB.drop hDs hDe | exact ClosedB.const _ | refine ClosedB.ex fun _ => ?_ | refine ClosedB.and ?_ ?_))) (by (intros; repeat' (first | exact ClosedB.row (fun _ => no_lineE (.inr ⟨_, rfl⟩)) | exact ClosedB.row (fun _ => no_lineE (.inl (by decide))) | exact ClosedB.grow (fun _ _ => no_lineE (.inl (by decide))) | exact ClosedB.drop hDs hDe | exact ClosedB.const _ | refine ClosedB.ex fun _ => ?_ | refine ClosedB.and ?_ ?_)))
    ?_ ?_ ?_ ?_ ?_
  · rw [upd_ne, upd_ne, upd_same]
    · exact fun e => by rw [← e, upd_same] at h1; cases h1
    · exact fun e => by rw [← e, upd_same] at h2; cases h2
  · refine ⟨fm0, .v (.slice none 0 0), ⟨rfl, hrne, Nat.le_refl _, fun n hn => by cases hn⟩, ?_, ?_, ?_, ?_, ?_, .nil _ _ _, hDs⟩
    all_goals simp [upd, N, nL, int, fm0]
  · rintro k x E σ' l hE hx ⟨f, a, ⟨hz, hne, hfl, hfn⟩, q2, q3, q4, q5, q6, hGr, hD⟩
    rw [hxs, List.getElem?_map] at hx
    obtain ⟨ln, hln, rfl⟩ := Option.map_eq_some_iff.1 hx
    have e2 : E 2 = .v (.pointer (some ⟨b2, 0, none⟩)) := by rw [hE 2 (by decide)]; simp only [go_sem, xQ, ↓reduceIte, xA, xM, xL, xT, xE, xN, xP, xR, xS]
    have e3 : E 3 = .v (.pointer (some ⟨b3, 0, none⟩)) := by rw [hE 3 (by decide)]; simp only [go_sem, xQ, ↓reduceIte, xA, xM, xL, xT, xE, xN, xP, xR, xS]
    have e4 : E 4 = .v (.pointer (some ⟨b4, 0, none⟩)) := by rw [hE 4 (by decide)]; simp only [go_sem, xQ, ↓reduceIte, xA, xM, xL, xT, xE, xN, xP, xR, xS]
    have e5 : E 5 = .v (.pointer (some ⟨b5, 0, none⟩)) := by rw [hE 5 (by decide)]; simp only [go_sem, xQ, ↓reduceIte, xA, xM, xL, xT, xE, xN, xP, xR, xS]
    have e6 : E 6 = .v (.pointer (some ⟨b6, 0, none⟩)) := by rw [hE 6 (by decide)]; simp only [go_sem, xQ, ↓reduceIte, xA, xM, xL, xT, xE, xN, xP, xR, xS]
    simp only [go_sem, xQ, ↓reduceIte, xA, xM, xL, xT, xE, xN, xP, xR, xS, e2, e3, e4, e5, e6, str]
    refine ⟨Keep.refl _ _, ln, f, a, ?_⟩
    simp only [go_sem, xQ, ↓reduceIte, xA, xM, xL, xT, xE, xN, xP, xR, xS, e2, e3, e4, e5, e6, str]
    exact ⟨⟨hln, hz, hfl, hfn⟩, q2, q3, q4, q5, q6, hGr, hD⟩
  · rintro k x ρ1 σ' l hx ⟨ln, f, a, ⟨hln, H, hz, hfl, hfn⟩, q2, q3, q4, q5, q6, hGr, hD⟩
    obtain ⟨r, rs, hd, hcase⟩ := linesR_get rows k ln hln
    have hrr : r ∈ rows := List.mem_of_mem_drop (i := k) (by rw [hd]; simp)
    have hd1 : rows.drop (k + 1) = rs := by rw [← List.tail_drop, hd]; rfl
    obtain ⟨r10, rle⟩ := hrm r hrr
    have hkl : k < rows.length := by
      have := congrArg List.length hd
      rw [List.length_drop] at this
      simp at this
      omega
    rw [hd] at hz
    rcases hcase with ⟨hrs, rfl⟩ | ⟨rfl, rfl, hrn⟩
    · have c1 := cut_nl r
      have c2 := ends_nl r
      obtain ⟨w, W, hW⟩ := cutL_cons 32 r
      have hWl : W.length ≤ 1000000 := by have := cutL_len 32 r; rw [hW] at this; simp at this; omega
      have hWm : ∀ x ∈ W, x.length ≤ 1000000 := fun x hx => by have := (cutL_mem 32 r x (by rw [hW]; simp [hx])).2; omega
      have hro : slStr (rowsB 32 (bts r)) = .sl (str (bts w) :: strs (W.map bts)) (W.length + 1) := by rw [rowsB, bts_data, hW]; exact slW_cons w W
      have g1 : (1 : Int) ≤ ((W.length + 1 : Nat) : Int) := by omega
      have g0 : (0 : Int) < ((W.length + 1 : Nat) : Int) := by omega
      simp only [go_sem, xQ, ↓reduceIte, xA, xM, xL, xT, xE, xN, xP, xR, xS, H, N]
      refine callB_use (f195 (bts (r ++ [10])) (by rw [bts_size]; simp; omega)) rfl ?_
      simp only [go_sem, xQ, ↓reduceIte, xA, xM, xL, xT, xE, xN, xP, xR, xS, H, N, c1, c2]
      refine callB_use (f196 (bts r) (by rw [bts_size]; omega)) rfl ?_
      simp only [go_sem, xQ, ↓reduceIte, xA, xM, xL, xT, xE, xN, xP, xR, xS, H, N, hro, q6]
      by_cases hk0 : (k : Int) = 0
      · have hk0' : k = 0 := by omega
        subst hk0'
        rw [parL_head hrs hW] at hz
        simp only [go_sem, xQ, ↓reduceIte, xA, xM, xL, xT, xE, xN, xP, xR, xS, H, N, hk0, g0, g1]
        refine callB_use (f197 W hWl hWm) (by simp [slW, slStr, strs_take]) ?_
        by_cases hv : w = bVarsL
        · have hvc : ((bts w).toList == (⟨#[118, 97, 114, 115]⟩ : ByteArray).toList) = true := by rw [hv]; exact beq_self_eq_true _
          rw [headO, if_pos hv] at hz
          cases hi : intsO 13 W with
          | none =>
            rw [hi] at hz
            simp only [go_sem, xQ, ↓reduceIte, xA, xM, xL, xT, xE, xN, xP, xR, xS, H, N, intsR, hi, hvc, g0, g1, Option.isSome_none, Option.getD_none]
            simp only [go_sem, xQ, ↓reduceIte, xA, xM, xL, xT, xE, xN, xP, xR, xS, H, N, q2, q3, q4]
            refine ⟨?_, 0, hz, rfl, ?_⟩
            · repeat (first | exact Keep.refl _ _ | refine keep_cell ?_ (by assumption) (.inr ⟨_, rfl⟩) | refine keep_cell ?_ (by assumption) (.inl (by decide)))
            · repeat (first | exact hD | refine Drop.upd ?_ (by assumption))
          | some ls =>
            rw [hi] at hz
            cases ls with
            | nil =>
              have e01 : ¬ (0 : Int) = 1 := by decide
              simp only [go_sem, xQ, ↓reduceIte, xA, xM, xL, xT, xE, xN, xP, xR, xS, H, N, intsR, hi, hvc, g0, g1, e01, Option.isSome_some, Option.getD_some]
              simp only [go_sem, xQ, ↓reduceIte, xA, xM, xL, xT, xE, xN, xP, xR, xS, H, N, q2, q3, q4]
              refine ⟨?_, 0, hz, rfl, ?_⟩
              · repeat (first | exact Keep.refl _ _ | refine keep_cell ?_ (by assumption) (.inr ⟨_, rfl⟩) | refine keep_cell ?_ (by assumption) (.inl (by decide)))
              · repeat (first | exact hD | refine Drop.upd ?_ (by assumption))
            | cons v ls =>
              cases ls with
              | nil =>
                simp only [go_sem, xQ, ↓reduceIte, xA, xM, xL, xT, xE, xN, xP, xR, xS, H, N, intsR, hi, hvc, g0, g1, Option.isSome_some, Option.getD_some, q5, q6]
                have w : IntKind.i64.wrap (0 + 1) = 1 := by decide
                refine ⟨?_, ⟨v, f.nodes⟩, a, ⟨by rw [hd1]; exact hz, by rw [hd1]; exact hrs, by show f.nodes.length ≤ 0 + 1; omega, hfn⟩, ?_⟩
                · repeat (first | exact Keep.refl _ _ | refine keep_cell ?_ (by assumption) (.inr ⟨_, rfl⟩) | refine keep_cell ?_ (by assumption) (.inl (by decide)))
                simp only [go_sem, xQ, ↓reduceIte, xA, xM, xL, xT, xE, xN, xP, xR, xS, N, q2, q3, q4, w]
                exact ⟨(hGr.updW (hGr.neS q5 (by decide)) _).updW (hGr.neS q6 (by decide)) _, (hD.upd hb5').upd hb6'⟩
              | cons v2 ls =>
                have e01 : ¬ (((ls.length + 1 + 1 : Nat)) : Int) = 1 := by omega
                simp only [go_sem, xQ, ↓reduceIte, xA, xM, xL, xT, xE, xN, xP, xR, xS, H, N, intsR, hi, hvc, g0, g1, e01, Option.isSome_some, Option.getD_some]
                simp only [go_sem, xQ, ↓reduceIte, xA, xM, xL, xT, xE, xN, xP, xR, xS, H, N, q2, q3, q4]
                refine ⟨?_, 0, hz, rfl, ?_⟩
                · repeat (first | exact Keep.refl _ _ | refine keep_cell ?_ (by assumption) (.inr ⟨_, rfl⟩) | refine keep_cell ?_ (by assumption) (.inl (by decide)))
                · repeat (first | exact hD | refine Drop.upd ?_ (by assumption))
        · have hvc : ((bts w).toList == (⟨#[118, 97, 114, 115]⟩ : ByteArray).toList) = false := by
            rw [Lib.toList_data, Lib.toList_data]
            exact beq_eq_false_iff_ne.2 hv
          rw [headO, if_neg hv] at hz
          simp only [go_sem, xQ, ↓reduceIte, xA, xM, xL, xT, xE, xN, xP, xR, xS, H, N, intsR, hvc, g0, g1]
          simp only [go_sem, xQ, ↓reduceIte, xA, xM, xL, xT, xE, xN, xP, xR, xS, H, N, q2, q3, q4]
          refine ⟨?_, 0, hz, rfl, ?_⟩
          · repeat (first | exact Keep.refl _ _ | refine keep_cell ?_ (by assumption) (.inr ⟨_, rfl⟩) | refine keep_cell ?_ (by assumption) (.inl (by decide)))
          · repeat (first | exact hD | refine Drop.upd ?_ (by assumption))
      · rw [parL_node hrs (by omega) hW] at hz
        have hcall : PCalls Tryz.prog Γ 198 [.sl (str (bts w) :: strs (W.map bts)) (W.length + 1)] (nodeR (nodeO w W)) := by
          rw [← slW_cons]
          exact f198 hG w W hWl hWm
        cases hn : nodeO w W with
        | none =>
          rw [hn] at hz hcall
          simp only [go_sem, xQ, ↓reduceIte, xA, xM, xL, xT, xE, xN, xP, xR, xS, H, N, hk0]
          refine callB_use (hcall) rfl ?_
          simp only [go_sem, xQ, ↓reduceIte, xA, xM, xL, xT, xE, xN, xP, xR, xS, H, N, nodeR, Option.isSome_none, Option.getD_none, ndA, ndC]
          intro b13 hb13
          have m2 : ¬ b2 = b13 := nn hb13 q2
          have m3 : ¬ b3 = b13 := nn hb13 q3
          have m4 : ¬ b4 = b13 := nn hb13 q4
          have m6 : ¬ b6 = b13 := nn hb13 q6
          have M : (¬ b2 = b13 ∧ ¬ b13 = b2) ∧ (¬ b3 = b13 ∧ ¬ b13 = b3) ∧ (¬ b4 = b13 ∧ ¬ b13 = b4) ∧ (¬ b6 = b13 ∧ ¬ b13 = b6) := ⟨⟨m2, Ne.symm m2⟩, ⟨m3, Ne.symm m3⟩, ⟨m4, Ne.symm m4⟩, m6, Ne.symm m6⟩
          simp only [go_sem, xQ, ↓reduceIte, xA, xM, xL, xT, xE, xN, xP, xR, xS, H, N, M]
          refine frzB_ptr 6 b6 (cs := [int k]) (s := 1) (c := 1) (by simp only [go_sem, xQ, ↓reduceIte, xA, xM, xL, xT, xE, xN, xP, xR, xS, H]) (by (repeat rw [upd_ne _ _ _ _ m6]); exact q6) ?_
          simp only [go_sem, xQ, ↓reduceIte, xA, xM, xL, xT, xE, xN, xP, xR, xS, H, N, M, q2, q3, q4, ers_upd]
          refine ⟨?_, k, hz, rfl, ?_⟩
          · repeat (first | exact (Keep.refl _ _).upd (keep_none hb13) | refine keep_cell ?_ (by assumption) (.inr ⟨_, rfl⟩) | refine keep_cell ?_ (by assumption) (.inl (by decide)))
          · have hz13 := hD.free hb13
            repeat (first | exact hD | refine Drop.upd ?_ (by assumption))
        | some n =>
          rw [hn] at hz hcall
          simp only [go_sem, xQ, ↓reduceIte, xA, xM, xL, xT, xE, xN, xP, xR, xS, H, N, hk0]
          refine callB_use (hcall) rfl ?_
          simp only [go_sem, xQ, ↓reduceIte, xA, xM, xL, xT, xE, xN, xP, xR, xS, H, N, nodeR, Option.isSome_some, Option.getD_some, ndA, ndC]
          intro b13 hb13
          have m2 : ¬ b2 = b13 := nn hb13 q2
          have m3 : ¬ b3 = b13 := nn hb13 q3
          have m4 : ¬ b4 = b13 := nn hb13 q4
          have m5 : ¬ b5 = b13 := nn hb13 q5
          have m6 : ¬ b6 = b13 := nn hb13 q6
          have M : (¬ b2 = b13 ∧ ¬ b13 = b2) ∧ (¬ b3 = b13 ∧ ¬ b13 = b3) ∧ (¬ b4 = b13 ∧ ¬ b13 = b4) ∧ (¬ b5 = b13 ∧ ¬ b13 = b5) ∧ (¬ b6 = b13 ∧ ¬ b13 = b6) := ⟨⟨m2, Ne.symm m2⟩, ⟨m3, Ne.symm m3⟩, ⟨m4, Ne.symm m4⟩, ⟨m5, Ne.symm m5⟩, m6, Ne.symm m6⟩
          have hca := hGr.cellsX
          have hoa := hGr.oneX
          simp only [go_sem, xQ, ↓reduceIte, xA, xM, xL, xT, xE, xN, xP, xR, xS, H, N, M, q5]
          refine appB_sl (cs := f.nodes.flatMap ndC) (m := f.nodes.length) (n := 1) (appT_sl el64 tk216 by216 el64 (by decide) rfl (by decide)) (hD.upd (hD.free hb13)) (hGr.upd hb13) rfl rfl (by omega) (fun a' σ3 hD3 hO3 hG3 => ?_)
          have w2 : σ3 b2 = some (.row [int 0, .v (.slice none 0 0)] 2 1) := by rw [hO3 b2 (hGr.neS q2 (by decide)) (by simp [upd, M, q2])]; simp [upd, M, q2]
          have w3 : σ3 b3 = some (.row [int 0] 1 1) := by rw [hO3 b3 (hGr.neS q3 (by decide)) (by simp [upd, M, q3])]; simp [upd, M, q3]
          have w4 : σ3 b4 = some (.row [int 0] 1 1) := by rw [hO3 b4 (hGr.neS q4 (by decide)) (by simp [upd, M, q4])]; simp [upd, M, q4]
          have w5 : σ3 b5 = some (.row [int f.vars, a] 2 1) := by rw [hO3 b5 (hGr.neS q5 (by decide)) (by simp [upd, M, q5])]; simp [upd, M, q5]
          have w6 : σ3 b6 = some (.row [int k] 1 1) := by rw [hO3 b6 (hGr.neS q6 (by decide)) (by simp [upd, M, q6])]; simp [upd, M, q6]
          have hc2 := hG3.cellsX
          have ho2 := hG3.oneX
          simp only [go_sem, xQ, ↓reduceIte, xA, xM, xL, xT, xE, xN, xP, xR, xS, H, N, M, w2, w3, w4, w5, w6, hc2, ho2]
          have hfit := nodeO_fit hn hWl
          refine ⟨?_, ⟨f.vars, f.nodes ++ [n]⟩, a', ⟨by rw [hd1]; exact hz, by rw [hd1]; exact hrs, by simp only [List.length_append, List.length_cons, List.length_nil]; omega, fun x hx => ?_⟩, ?_⟩
          · have k1 : Keep (KD lineC) σ' σ3 := ((Keep.refl _ _).upd (keep_none hb13)).trans (keep_app hO3 (hGr.upd hb13) (by decide))
            refine k1.trans ?_
            repeat (first | exact Keep.refl _ _ | refine keep_cell ?_ (by assumption) (.inr ⟨_, rfl⟩) | refine keep_cell ?_ (by assumption) (.inl (by decide)))
          · rcases List.mem_append.1 hx with hx | hx
            · exact hfn x hx
            · rw [List.mem_singleton.1 hx]; exact hfit
          refine ⟨rfl, by rw [wrap_succ _ (by omega)], ?_, (hD3.upd hb5').upd hb6'⟩
          have hg := (hG3.updW (hG3.neS w5 (by decide)) (some (.row [int f.vars, a'] 2 1))).updW (hG3.neS w6 (by decide)) (some (.row [int (IntKind.i64.wrap ((k : Int) + 1))] 1 1))
          simpa [ndC, slI, int, ints] using hg
    · have c2 := ends_none r10
      rw [parL_bad hrn] at hz
      have hce := cutEnd_le (bts ln)
      rw [bts_size] at hce
      simp only [go_sem, xQ, ↓reduceIte, xA, xM, xL, xT, xE, xN, xP, xR, xS, H, N]
      refine callB_use (f195 (bts ln) (by rw [bts_size]; omega)) rfl ?_
      simp only [go_sem, xQ, ↓reduceIte, xA, xM, xL, xT, xE, xN, xP, xR, xS, H, N, c2]
      refine callB_use (f196 (cutEnd (bts ln)) (by omega)) rfl ?_
      simp only [go_sem, xQ, ↓reduceIte, xA, xM, xL, xT, xE, xN, xP, xR, xS, H, N]
      refine frzB_ptr 6 b6 (by simp only [go_sem, xQ, ↓reduceIte, xA, xM, xL, xT, xE, xN, xP, xR, xS, H]) q6 ?_
      simp only [go_sem, xQ, ↓reduceIte, xA, xM, xL, xT, xE, xN, xP, xR, xS, H, N, q2, q3, q4, ers_upd]
      refine ⟨?_, k, hz, rfl, ?_⟩
      · repeat (first | exact Keep.refl _ _ | refine keep_cell ?_ (by assumption) (.inr ⟨_, rfl⟩) | refine keep_cell ?_ (by assumption) (.inl (by decide)))
      · repeat (first | exact hD | refine Drop.upd ?_ (by assumption))
  · rintro σ' r hr' ⟨f, a, ⟨hz, hne, hfl, hfn⟩, q2, q3, q4, q5, q6, hGr, hD⟩ hd
    have hll : (linesX s).length = (linesR rows).length := by rw [hxs, List.length_map]
    rw [hll] at hz hne hfl q6
    have hlr := linesR_len rows
    rw [linesR_end rows hne] at hz
    have u2 : ¬ b2 = r := dn hd q2
    have u3' : ¬ b3 = r := dn hd q3
    have u4 : ¬ b4 = r := dn hd q4
    have u5 : ¬ b5 = r := dn hd q5
    have u6 : ¬ b6 = r := dn hd q6
    have U : (¬ b2 = r ∧ ¬ r = b2) ∧ (¬ b3 = r ∧ ¬ r = b3) ∧ (¬ b4 = r ∧ ¬ r = b4) ∧ (¬ b5 = r ∧ ¬ r = b5) ∧ (¬ b6 = r ∧ ¬ r = b6) := ⟨⟨u2, Ne.symm u2⟩, ⟨u3', Ne.symm u3'⟩, ⟨u4, Ne.symm u4⟩, ⟨u5, Ne.symm u5⟩, u6, Ne.symm u6⟩
    obtain ⟨m, hm⟩ : ∃ m, (linesR rows).length = m := ⟨_, rfl⟩
    rw [hm] at hz hne hfl q6
    have hca := hGr.cellsX
    have hoa := hGr.oneX
    have hbr : σ r = none := (un (un (un (un (un (un hr').2).2).2).2).2).2
    by_cases hm0 : (m : Int) = 0
    · obtain rfl : m = 0 := by omega
      rw [parL_zero] at hz
      rw [hz]
      simp only [go_sem, xQ, ↓reduceIte, xA, xM, xL, xT, xE, xN, xP, xR, xS, N, U, q2, q3, q4, q5, q6, hd, hm0, hca, hoa, ers_upd]
      exact ⟨.tup (.cons (.agg (.cons (.refl _) (.cons .nil .nil))) (.cons (.refl _) (.cons (.refl _) .nil))), by repeat (first | exact hD | refine Drop.upd ?_ (by assumption))⟩
    · rw [parL_last (by omega)] at hz
      rw [hz]
      simp only [go_sem, xQ, ↓reduceIte, xA, xM, xL, xT, xE, xN, xP, xR, xS, N, U, q2, q3, q4, q5, q6, hd, hm0, hca, hoa]
      refine callB_bor (f47 hG f (by omega) hfn) rfl (.cons (.agg (.cons (.refl _) (.cons hGr.toNo2 .nil))) .nil) ?_
      by_cases hck : checkE f = 0
      · rw [if_pos hck]
        simp only [go_sem, xQ, ↓reduceIte, xA, xM, xL, xT, xE, xN, xP, xR, xS, N, U, q2, q3, q4, q5, q6, hd, hck, hca, hoa, ers_upd]
        have hgf := ((((hGr.updW (hGr.neS q2 (by decide)) (some (.row [int f.vars, a] 2 1))).updW (hGr.neS q3 (by decide)) (some (.row [int 0] 1 1))).updW (hGr.neS q4 (by decide)) (some (.row [int 0] 1 1))).updW (hGr.neO hd) none)
        exact ⟨.tup (.cons (.agg (.cons (.refl _) (.cons (hgf.retP (by repeat (first | exact hD | refine Drop.upd ?_ (by assumption)))).1 .nil))) (.cons (.refl _) (.cons (.refl _) .nil))), by repeat (first | exact hD | refine Drop.upd ?_ (by assumption))⟩
      · rw [if_neg hck]
        simp only [go_sem, xQ, ↓reduceIte, xA, xM, xL, xT, xE, xN, xP, xR, xS, N, U, q2, q3, q4, q5, q6, hd, hck, hca, hoa]
        refine frzB_ptr 6 b6 (by simp only [go_sem, xQ, ↓reduceIte, xA, xM, xL, xT, xE, xN, xP, xR, xS]) q6 ?_
        simp only [go_sem, xQ, ↓reduceIte, xA, xM, xL, xT, xE, xN, xP, xR, xS, N, U, q2, q3, q4, q5, q6, hd, hck, hca, hoa, ers_upd]
        exact ⟨.tup (.cons (.agg (.cons (.refl _) (.cons .nil .nil))) (.cons (.refl _) (.cons (.refl _) .nil))), by repeat (first | exact hD | refine Drop.upd ?_ (by assumption))⟩
  · rintro e σ' r hr' ⟨i, ⟨rfl, hz⟩, q2, q3, q4, hD⟩ hd
    have u2 : ¬ b2 = r := dn hd q2
    have u3' : ¬ b3 = r := dn hd q3
    have u4 : ¬ b4 = r := dn hd q4
    have U : (¬ b2 = r ∧ ¬ r = b2) ∧ (¬ b3 = r ∧ ¬ r = b3) ∧ (¬ b4 = r ∧ ¬ r = b4) := ⟨⟨u2, Ne.symm u2⟩, ⟨u3', Ne.symm u3'⟩, u4, Ne.symm u4⟩
    have hbr : σ r = none := (un (un (un (un (un (un hr').2).2).2).2).2).2
    rw [hz]
    simp only [go_sem, xQ, ↓reduceIte, xA, xM, xL, xT, xE, xN, xP, xR, xS, N, U, q2, q3, q4, hd, ers_upd]
    exact ⟨.tup (.cons (.agg (.cons (.refl _) (.cons .nil .nil))) (.cons (.refl _) (.cons (.refl _) .nil))), by repeat (first | exact hD | refine Drop.upd ?_ (by assumption))⟩
end Go.AL
