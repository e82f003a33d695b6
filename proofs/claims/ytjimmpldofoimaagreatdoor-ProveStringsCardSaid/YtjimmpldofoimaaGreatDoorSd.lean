/- Formulas are parsed as they were printed, plainly. -/
import Derived.Test.YtjimmpldofoimaaGreatDoorSb
import Derived.Test.YtjimmpldofoimaaGreatDoorSc
import Derived.Test.YtjimmpldofoimaaGreatDoorXc
import Derived.Test.YtjimmpldofoimaaGreatDoorXq
open Nat renaming reduceEqDiff → xQ, reduceAdd → xA, reduceMul → xM, reduceLeDiff → xL
open Int renaming reduceLT → xT, reduceLE → xE, reduceToNat → xN
open Go.AL renaming retPost_one → xP, retPost_oneN → xR, ers_at' → xS
set_option linter.unusedVariables false
set_option linter.unusedSimpArgs false
namespace Go.AL
open Go.Proofs
def numsB (l : List Int) : List UInt8 := l.flatMap fun n => 32 :: Lib.itoa n
theorem joinTail_nums : ∀ l : List Int, Lib.joinTail [32] ((l.map itoaP).map (·.data.toList)) = numsB l
  | [] => rfl
  | n :: l => by
    have ih := joinTail_nums l
    simp only [Lib.joinTail, numsB, List.map_cons, List.flatten_cons, List.flatMap_cons] at ih ⊢
    rw [ih]
    rfl
theorem lineF_data (w : ByteArray) (l : List Int) : (lineF w l).data.toList = w.data.toList ++ numsB l ++ [10] := by
  have e : (lineF w l).data.toList = Lib.join ((w :: l.map itoaP).map (·.data.toList)) bSp.data.toList ++ [10] := by
    simp [lineF, joinP, bNl]
  rw [e, List.map_cons, Lib.join_cons]
  have : bSp.data.toList = [32] := rfl
  rw [this, joinTail_nums]
end Go.AL

/- Numbers and formulas printed by the reference. -/
set_option linter.unusedVariables false
set_option linter.unusedSimpArgs false
namespace Go.AL
open Go.Proofs
variable {Γ : Glob}
attribute [local irreducible] codeW opsW dopsW
theorem enc_dig (d : Nat) (h : d < 10) : Utf8.encode ((48 + d : Nat) : Int) = bts [UInt8.ofNat (48 + d)] := by
  have : ∀ d : Fin 10, Utf8.encode ((48 + d.val : Nat) : Int) = ⟨#[UInt8.ofNat (48 + d.val)]⟩ := by decide +kernel
  exact this ⟨d, h⟩
theorem itoa_small {u : Nat} (h : u < 10) : Lib.itoa u = [UInt8.ofNat (48 + u)] := by rw [Lib.itoa_nonneg, Lib.decDigits, dif_pos h]
theorem itoa_big {u : Nat} (h : ¬ u < 10) : Lib.itoa u = Lib.itoa ((u / 10 : Nat) : Int) ++ [UInt8.ofNat (48 + u % 10)] := by rw [Lib.itoa_nonneg, Lib.itoa_nonneg, Lib.decDigits, dif_neg h]
theorem itoa_nsmall {u : Nat} (h0 : 1 ≤ u) (h : u < 10) : Lib.itoa (-(u : Int)) = [45, UInt8.ofNat (48 + u)] := by rw [Lib.itoa_neg u h0, Lib.decDigits, dif_pos h]
theorem itoa_nbig {u : Nat} (h : ¬ u < 10) : Lib.itoa (-(u : Int)) = Lib.itoa (-((u / 10 : Nat) : Int)) ++ [UInt8.ofNat (48 + u % 10)] := by rw [Lib.itoa_neg u (by omega), Lib.itoa_neg (u / 10) (by omega), Lib.decDigits, dif_neg h]; rfl
theorem bts_app (a b : List UInt8) : bts a ++ bts b = bts (a ++ b) := by
  apply ByteArray.ext
  simp [bts]
theorem dig_facts (d : Nat) (h : d < 10) : IntKind.i64.wrap (48 + (d : Int)) = ((48 + d : Nat) : Int) ∧ IntKind.i32.wrap ((48 + d : Nat) : Int) = ((48 + d : Nat) : Int) ∧ Utf8.encode ((48 + d : Nat) : Int) = bts [UInt8.ofNat (48 + d)] :=
  ⟨by rw [wrap_i64 _ (by omega) (by omega)]; omega, IntWalk.i32_in _ ⟨by omega, by omega⟩, enc_dig d h⟩
theorem f188 : ∀ (m : Nat) (n : Int), n.natAbs ≤ m → I64 n → PCalls Tryz.prog Γ 188 [int n] (str (itoaP n)) := by
  have hs : ∀ x, I64 x → (itoaP x).size ≤ 21 := fun x hx => by have := itoa_len hx; rwa [← Lib.size_eq] at this
  have h100 : ¬ (10 : Int) = 0 := by decide
  have hsz1 : ∀ b : UInt8, (bts [b]).size = 1 := fun b => bts_size [b]
  intro m
  induction m using Nat.strongRecOn with
  | _ m ih =>
    intro n hm hn
    refine pcalls (ok188 Γ) fun σ => ?_
    by_cases h0 : n < 0
    · obtain ⟨u, rfl⟩ : ∃ u : Nat, n = -(u : Int) := ⟨n.natAbs, by omega⟩
      have hu : u ≤ 9223372036854775808 := by have := hn.1; omega
      have q1 : Int.tmod (-(u : Int)) 10 = -((u % 10 : Nat) : Int) := by rw [Int.neg_tmod, Int.tmod_eq_emod_of_nonneg (by omega)]; omega
      have q2 : Int.tdiv (-(u : Int)) 10 = -((u / 10 : Nat) : Int) := by rw [Int.neg_tdiv, Int.tdiv_eq_ediv_of_nonneg (by omega)]; omega
      have q3 : IntKind.i64.wrap (0 - -((u % 10 : Nat) : Int)) = ((u % 10 : Nat) : Int) := by rw [wrap_i64 _ (by omega) (by omega)]; omega
      have q4 : IntKind.i64.wrap (-((u / 10 : Nat) : Int)) = -((u / 10 : Nat) : Int) := wrap_i64 _ (by omega) (by omega)
      obtain ⟨d1, d2, d3⟩ := dig_facts (u % 10) (Nat.mod_lt _ (by decide))
      have hz1 := hsz1 (UInt8.ofNat (48 + u % 10))
      by_cases h10 : u < 10
      · have q5 : -((u / 10 : Nat) : Int) = 0 := by omega
        have q6 : IntKind.i64.wrap 0 = 0 := by decide
        have e : itoaP (-(u : Int)) = ⟨#[45]⟩ ++ bts [UInt8.ofNat (48 + u % 10)] := by
          rw [itoaP, itoa_nsmall (by omega) h10, Nat.mod_eq_of_lt h10]
          exact (bts_app [45] [UInt8.ofNat (48 + u)]).symm
        have hb : (#[45] : Array UInt8).size + (bts [UInt8.ofNat (48 + u % 10)]).size ≤ 9223372036854775807 := by rw [hz1]; decide
        simp only [go_sem, xQ, ↓reduceIte, xA, xM, xL, xT, xE, xN, xP, xR, xS, Tryz.f188, h0, h100, q1, q2, q3, q4, q5, q6, d1, d2, d3, us21, us9, Option.isSome_some, hb]
        exact retP_eq (congrArg (fun s => AV.v (Value.string s)) e.symm)
      · have q5 : ¬ -((u / 10 : Nat) : Int) = 0 := by omega
        have e : itoaP (-(u : Int)) = itoaP (-((u / 10 : Nat) : Int)) ++ bts [UInt8.ofNat (48 + u % 10)] := by
          rw [itoaP, itoa_nbig h10]
          exact (bts_app _ _).symm
        have hi : I64 (-((u / 10 : Nat) : Int)) := ⟨by omega, by omega⟩
        have hb : (itoaP (-((u / 10 : Nat) : Int))).size + (bts [UInt8.ofNat (48 + u % 10)]).size ≤ 9223372036854775807 := by have := hs _ hi; omega
        simp only [go_sem, xQ, ↓reduceIte, xA, xM, xL, xT, xE, xN, xP, xR, xS, Tryz.f188, h0, h100, q1, q2, q3, q4, q5, d1, d2, d3, us21, us9, Option.isSome_some]
        refine callB_use (ih (u / 10) (by omega) (-((u / 10 : Nat) : Int)) (by omega) hi) rfl ?_
        simp only [go_sem, xQ, ↓reduceIte, xA, xM, xL, xT, xE, xN, xP, xR, xS, h0, h100, q1, q2, q3, q4, q5, d1, d2, d3, us21, us9, Option.isSome_some, hb]
        exact retP_eq (congrArg (fun s => AV.v (Value.string s)) e.symm)
    · obtain ⟨u, rfl⟩ : ∃ u : Nat, n = u := ⟨n.toNat, by omega⟩
      have hu : u ≤ 9223372036854775807 := by have := hn.2; omega
      by_cases h10 : (u : Int) < 10
      · obtain ⟨d1, d2, d3⟩ := dig_facts u (by omega)
        have e : itoaP (u : Int) = bts [UInt8.ofNat (48 + u)] := by rw [itoaP, itoa_small (by omega)]; rfl
        simp only [go_sem, xQ, ↓reduceIte, xA, xM, xL, xT, xE, xN, xP, xR, xS, Tryz.f188, h0, h10, d1, d2, d3, us21, us9, Option.isSome_some]
        exact retP_eq (congrArg (fun s => AV.v (Value.string s)) e.symm)
      · have q1 : Int.tmod (u : Int) 10 = ((u % 10 : Nat) : Int) := by rw [Int.tmod_eq_emod_of_nonneg (by omega)]; omega
        have q2 : Int.tdiv (u : Int) 10 = ((u / 10 : Nat) : Int) := by rw [Int.tdiv_eq_ediv_of_nonneg (by omega)]; omega
        have q4 : IntKind.i64.wrap ((u / 10 : Nat) : Int) = ((u / 10 : Nat) : Int) := wrap_i64 _ (by omega) (by omega)
        obtain ⟨d1, d2, d3⟩ := dig_facts (u % 10) (Nat.mod_lt _ (by decide))
        have hz1 := hsz1 (UInt8.ofNat (48 + u % 10))
        have e : itoaP (u : Int) = itoaP ((u / 10 : Nat) : Int) ++ bts [UInt8.ofNat (48 + u % 10)] := by
          rw [itoaP, itoa_big (by omega)]
          exact (bts_app _ _).symm
        have hi : I64 ((u / 10 : Nat) : Int) := ⟨by omega, by omega⟩
        have hb : (itoaP ((u / 10 : Nat) : Int)).size + (bts [UInt8.ofNat (48 + u % 10)]).size ≤ 9223372036854775807 := by have := hs _ hi; omega
        simp only [go_sem, xQ, ↓reduceIte, xA, xM, xL, xT, xE, xN, xP, xR, xS, Tryz.f188, h0, h10, h100, q1, q2, q4, d1, d2, d3, us21, us9, Option.isSome_some]
        refine callB_use (ih (u / 10) (by omega) ((u / 10 : Nat) : Int) (by omega) hi) rfl ?_
        simp only [go_sem, xQ, ↓reduceIte, xA, xM, xL, xT, xE, xN, xP, xR, xS, h0, h10, h100, q1, q2, q4, d1, d2, d3, us21, us9, Option.isSome_some, hb]
        exact retP_eq (congrArg (fun s => AV.v (Value.string s)) e.symm)
theorem app_sp (X : List UInt8) (x : Int) : bts X ++ ⟨#[32]⟩ ++ itoaP x = bts (X ++ 32 :: Lib.itoa x) := by
  show bts X ++ bts [32] ++ bts (Lib.itoa x) = _
  rw [bts_app, bts_app]
  simp
theorem app_nl (X : List UInt8) : bts X ++ ⟨#[10]⟩ = bts (X ++ [10]) := bts_app X [10]
/-! ### Formulas printed -/
theorem nums_take {l : List Int} {k : Nat} {x : Int} (h : l[k]? = some x) : numsB (l.take (k + 1)) = numsB (l.take k) ++ (32 :: Lib.itoa x) := by
  rw [take_succ h, numsB, List.flatMap_append]
  simp [numsB]
end Go.AL

/- Parse of formulas, of the reference. -/
set_option linter.unusedVariables false
set_option linter.unusedSimpArgs false
namespace Go.AL
open Go.Proofs
variable {Γ : Glob}
attribute [local irreducible] codeW opsW dopsW
theorem str_eq (a : List UInt8) (b : ByteArray) : ((bts a).toList == b.toList) = decide (bts a = b) := by
  by_cases h : bts a = b
  · rw [h, decide_eq_true rfl]; exact beq_self_eq_true _
  · rw [decide_eq_false h, Lib.toList_data, Lib.toList_data]
    exact beq_eq_false_iff_ne.2 fun e => h (ByteArray.ext (Array.toList_inj.1 e))
theorem str_eq2 (a : List UInt8) (b : ByteArray) : (b.toList == (bts a).toList) = decide (b = bts a) := by
  by_cases h : b = bts a
  · rw [h, decide_eq_true rfl]; exact beq_self_eq_true _
  · rw [decide_eq_false h, Lib.toList_data, Lib.toList_data]
    exact beq_eq_false_iff_ne.2 fun e => h (ByteArray.ext (Array.toList_inj.1 e))
/-- The cells of nodes, told before they are handed on. -/
def RawOk (cs : List AV) (l : List Nd) : Prop := ∀ σ1 σ2 : Sig, FzL σ1 σ2 cs (l.flatMap ndC)
theorem RawOk.nil : RawOk [] [] := fun _ _ => .nil
theorem RawOk.app {cs xs : List AV} {l : List Nd} {n : Nd} (h : RawOk cs l) (hx : ∀ σ1 σ2 : Sig, FzL σ1 σ2 xs (ndC n)) : RawOk (cs ++ xs) (l ++ [n]) := fun σ1 σ2 => by
  rw [List.flatMap_append, List.flatMap_singleton]
  exact (h σ1 σ2).app (hx σ1 σ2)
theorem Grow.fzT {σ0 σ σt : Sig} {s n : Nat} {a : AV} {cs cs' : List AV} (h : Grow σ0 σ s a cs n) (ht : ∀ b, σ0 b = none → σt b = none) (hk : FzL σ σt cs cs') : Fz σ σt a (.sl cs' n) := by
  rcases h with ⟨h, rfl, rfl⟩ | ⟨b, c, rfl, h1, h2, h3⟩
  · cases hk
    rcases h with rfl | rfl
    · exact .nil
    · exact .e0
  · refine .own h2 (ht b h1) ?_
    have : (cs.drop (0 * s)).take (n * s) = cs := by simp [← h3]
    rw [this]
    exact hk
end Go.AL

/- FormulaStrings: the law holds at all formulas and all strings. -/
set_option linter.unusedVariables false
set_option linter.unusedSimpArgs false
namespace Go.AL
open Go.Proofs
variable {Γ : Glob}
attribute [local irreducible] codeW opsW dopsW
theorem beq_bytes (a : ByteArray) : (a.toList == a.toList) = true := beq_self_eq_true _
end Go.AL
