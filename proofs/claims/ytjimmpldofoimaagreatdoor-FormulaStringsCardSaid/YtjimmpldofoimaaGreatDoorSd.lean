/- Formulas are parsed as they were printed, plainly. -/
import Derived.Test.YtjimmpldofoimaaGreatDoorSb
import Derived.Test.YtjimmpldofoimaaGreatDoorSc
import Derived.Test.YtjimmpldofoimaaGreatDoorXb
import Derived.Test.YtjimmpldofoimaaGreatDoorXf
import Derived.Test.YtjimmpldofoimaaGreatDoorXm
import Derived.Test.YtjimmpldofoimaaGreatDoorXq
open Nat renaming reduceEqDiff → xQ, reduceAdd → xA, reduceMul → xM, reduceLeDiff → xL
open Int renaming reduceLT → xT, reduceLE → xE, reduceToNat → xN
open Go.AL renaming retPost_one → xP, retPost_oneN → xR, ers_at' → xS
set_option linter.unusedVariables false
set_option linter.unusedSimpArgs false
namespace Go.AL
open Go.Proofs
def numsB (l : List Int) : List UInt8 := l.flatMap fun n => 32 :: Lib.itoa n
theorem joinTail_nums : ∀ l : List Int, Lib.joinTail [32] ((l.map itoaP).map (·.data.toList)) = numsB l
  | [] => rfl
  | n :: l => by
    have ih := joinTail_nums l
    simp only [Lib.joinTail, numsB, List.map_cons, List.flatten_cons, List.flatMap_cons] at ih ⊢
    rw [ih]
    rfl
theorem lineF_data (w : ByteArray) (l : List Int) : (lineF w l).data.toList = w.data.toList ++ numsB l ++ [10] := by
  have e : (lineF w l).data.toList = Lib.join ((w :: l.map itoaP).map (·.data.toList)) bSp.data.toList ++ [10] := by
    simp [lineF, joinP, bNl]
  rw [e, List.map_cons, Lib.join_cons]
  have : bSp.data.toList = [32] := rfl
  rw [this, joinTail_nums]
def bodyN (n : Nd) : List UInt8 := (wordN n.kind).data.toList ++ numsB (numsN n)
end Go.AL

/- Numbers and formulas printed by the reference. -/
set_option linter.unusedVariables false
set_option linter.unusedSimpArgs false
namespace Go.AL
open Go.Proofs
variable {Γ : Glob}
attribute [local irreducible] codeW opsW dopsW
theorem enc_dig (d : Nat) (h : d < 10) : Utf8.encode ((48 + d : Nat) : Int) = bts [UInt8.ofNat (48 + d)] := by
  have : ∀ d : Fin 10, Utf8.encode ((48 + d.val : Nat) : Int) = ⟨#[UInt8.ofNat (48 + d.val)]⟩ := by decide +kernel
  exact this ⟨d, h⟩
theorem itoa_small {u : Nat} (h : u < 10) : Lib.itoa u = [UInt8.ofNat (48 + u)] := by rw [Lib.itoa_nonneg, Lib.decDigits, dif_pos h]
theorem itoa_big {u : Nat} (h : ¬ u < 10) : Lib.itoa u = Lib.itoa ((u / 10 : Nat) : Int) ++ [UInt8.ofNat (48 + u % 10)] := by rw [Lib.itoa_nonneg, Lib.itoa_nonneg, Lib.decDigits, dif_neg h]
theorem itoa_nsmall {u : Nat} (h0 : 1 ≤ u) (h : u < 10) : Lib.itoa (-(u : Int)) = [45, UInt8.ofNat (48 + u)] := by rw [Lib.itoa_neg u h0, Lib.decDigits, dif_pos h]
theorem itoa_nbig {u : Nat} (h : ¬ u < 10) : Lib.itoa (-(u : Int)) = Lib.itoa (-((u / 10 : Nat) : Int)) ++ [UInt8.ofNat (48 + u % 10)] := by rw [Lib.itoa_neg u (by omega), Lib.itoa_neg (u / 10) (by omega), Lib.decDigits, dif_neg h]; rfl
theorem bts_app (a b : List UInt8) : bts a ++ bts b = bts (a ++ b) := by
  apply ByteArray.ext
  simp [bts]
theorem dig_facts (d : Nat) (h : d < 10) : IntKind.i64.wrap (48 + (d : Int)) = ((48 + d : Nat) : Int) ∧ IntKind.i32.wrap ((48 + d : Nat) : Int) = ((48 + d : Nat) : Int) ∧ Utf8.encode ((48 + d : Nat) : Int) = bts [UInt8.ofNat (48 + d)] :=
  ⟨by rw [wrap_i64 _ (by omega) (by omega)]; omega, IntWalk.i32_in _ ⟨by omega, by omega⟩, enc_dig d h⟩
theorem f188 : ∀ (m : Nat) (n : Int), n.natAbs ≤ m → I64 n → PCalls Tryz.prog Γ 188 [int n] (str (itoaP n)) := by
  have hs : ∀ x, I64 x → (itoaP x).size ≤ 21 := fun x hx => by have := itoa_len hx; rwa [← Lib.size_eq] at this
  have h100 : ¬ (10 : Int) = 0 := by decide
  have hsz1 : ∀ b : UInt8, (bts [b]).size = 1 := fun b => bts_size [b]
  intro m
  induction m using Nat.strongRecOn with
  | _ m ih =>
    intro n hm hn
    refine pcalls (ok188 Γ) fun σ => ?_
    by_cases h0 : n < 0
    · obtain ⟨u, rfl⟩ : ∃ u : Nat, n = -(u : Int) := ⟨n.natAbs, by omega⟩
      have hu : u ≤ 9223372036854775808 := by have := hn.1; omega
      have q1 : Int.tmod (-(u : Int)) 10 = -((u % 10 : Nat) : Int) := by rw [Int.neg_tmod, Int.tmod_eq_emod_of_nonneg (by omega)]; omega
      have q2 : Int.tdiv (-(u : Int)) 10 = -((u / 10 : Nat) : Int) := by rw [Int.neg_tdiv, Int.tdiv_eq_ediv_of_nonneg (by omega)]; omega
      have q3 : IntKind.i64.wrap (0 - -((u % 10 : Nat) : Int)) = ((u % 10 : Nat) : Int) := by rw [wrap_i64 _ (by omega) (by omega)]; omega
      have q4 : IntKind.i64.wrap (-((u / 10 : Nat) : Int)) = -((u / 10 : Nat) : Int) := wrap_i64 _ (by omega) (by omega)
      obtain ⟨d1, d2, d3⟩ := dig_facts (u % 10) (Nat.mod_lt _ (by decide))
      have hz1 := hsz1 (UInt8.ofNat (48 + u % 10))
      by_cases h10 : u < 10
      · have q5 : -((u / 10 : Nat) : Int) = 0 := by omega
        have q6 : IntKind.i64.wrap 0 = 0 := by decide
        have e : itoaP (-(u : Int)) = ⟨#[45]⟩ ++ bts [UInt8.ofNat (48 + u % 10)] := by
          rw [itoaP, itoa_nsmall (by omega) h10, Nat.mod_eq_of_lt h10]
          exact (bts_app [45] [UInt8.ofNat (48 + u)]).symm
        have hb : (#[45] : Array UInt8).size + (bts [UInt8.ofNat (48 + u % 10)]).size ≤ 9223372036854775807 := by rw [hz1]; decide
        simp only [go_sem, xQ, ↓reduceIte, xA, xM, xL, xT, xE, xN, xP, xR, xS, Tryz.f188, h0, h100, q1, q2, q3, q4, q5, q6, d1, d2, d3, us21, us9, Option.isSome_some, hb]
        exact retP_eq (congrArg (fun s => AV.v (Value.string s)) e.symm)
      · have q5 : ¬ -((u / 10 : Nat) : Int) = 0 := by omega
        have e : itoaP (-(u : Int)) = itoaP (-((u / 10 : Nat) : Int)) ++ bts [UInt8.ofNat (48 + u % 10)] := by
          rw [itoaP, itoa_nbig h10]
          exact (bts_app _ _).symm
        have hi : I64 (-((u / 10 : Nat) : Int)) := ⟨by omega, by omega⟩
        have hb : (itoaP (-((u / 10 : Nat) : Int))).size + (bts [UInt8.ofNat (48 + u % 10)]).size ≤ 9223372036854775807 := by have := hs _ hi; omega
        simp only [go_sem, xQ, ↓reduceIte, xA, xM, xL, xT, xE, xN, xP, xR, xS, Tryz.f188, h0, h100, q1, q2, q3, q4, q5, d1, d2, d3, us21, us9, Option.isSome_some]
        refine callB_use (ih (u / 10) (by omega) (-((u / 10 : Nat) : Int)) (by omega) hi) rfl ?_
        simp only [go_sem, xQ, ↓reduceIte, xA, xM, xL, xT, xE, xN, xP, xR, xS, h0, h100, q1, q2, q3, q4, q5, d1, d2, d3, us21, us9, Option.isSome_some, hb]
        exact retP_eq (congrArg (fun s => AV.v (Value.string s)) e.symm)
    · obtain ⟨u, rfl⟩ : ∃ u : Nat, n = u := ⟨n.toNat, by omega⟩
      have hu : u ≤ 9223372036854775807 := by have := hn.2; omega
      by_cases h10 : (u : Int) < 10
      · obtain ⟨d1, d2, d3⟩ := dig_facts u (by omega)
        have e : itoaP (u : Int) = bts [UInt8.ofNat (48 + u)] := by rw [itoaP, itoa_small (by omega)]; rfl
        simp only [go_sem, xQ, ↓reduceIte, xA, xM, xL, xT, xE, xN, xP, xR, xS, Tryz.f188, h0, h10, d1, d2, d3, us21, us9, Option.isSome_some]
        exact retP_eq (congrArg (fun s => AV.v (Value.string s)) e.symm)
      · have q1 : Int.tmod (u : Int) 10 = ((u % 10 : Nat) : Int) := by rw [Int.tmod_eq_emod_of_nonneg (by omega)]; omega
        have q2 : Int.tdiv (u : Int) 10 = ((u / 10 : Nat) : Int) := by rw [Int.tdiv_eq_ediv_of_nonneg (by omega)]; omega
        have q4 : IntKind.i64.wrap ((u / 10 : Nat) : Int) = ((u / 10 : Nat) : Int) := wrap_i64 _ (by omega) (by omega)
        obtain ⟨d1, d2, d3⟩ := dig_facts (u % 10) (Nat.mod_lt _ (by decide))
        have hz1 := hsz1 (UInt8.ofNat (48 + u % 10))
        have e : itoaP (u : Int) = itoaP ((u / 10 : Nat) : Int) ++ bts [UInt8.ofNat (48 + u % 10)] := by
          rw [itoaP, itoa_big (by omega)]
          exact (bts_app _ _).symm
        have hi : I64 ((u / 10 : Nat) : Int) := ⟨by omega, by omega⟩
        have hb : (itoaP ((u / 10 : Nat) : Int)).size + (bts [UInt8.ofNat (48 + u % 10)]).size ≤ 9223372036854775807 := by have := hs _ hi; omega
        simp only [go_sem, xQ, ↓reduceIte, xA, xM, xL, xT, xE, xN, xP, xR, xS, Tryz.f188, h0, h10, h100, q1, q2, q4, d1, d2, d3, us21, us9, Option.isSome_some]
        refine callB_use (ih (u / 10) (by omega) ((u / 10 : Nat) : Int) (by omega) hi) rfl ?_
        simp only [go_sem, xQ, ↓reduceIte, xA, xM, xL, xT, xE, xN, xP, xR, xS, h0, h10, h100, q1, q2, q4, d1, d2, d3, us21, us9, Option.isSome_some, hb]
        exact retP_eq (congrArg (fun s => AV.v (Value.string s)) e.symm)
theorem app_sp (X : List UInt8) (x : Int) : bts X ++ ⟨#[32]⟩ ++ itoaP x = bts (X ++ 32 :: Lib.itoa x) := by
  show bts X ++ bts [32] ++ bts (Lib.itoa x) = _
  rw [bts_app, bts_app]
  simp
theorem app_nl (X : List UInt8) : bts X ++ ⟨#[10]⟩ = bts (X ++ [10]) := bts_app X [10]
theorem app_w (X : List UInt8) (w : ByteArray) : bts X ++ w = bts (X ++ w.data.toList) := by
  conv => lhs; rw [← bts_of w]
  exact bts_app X _
/-! ### Formulas printed -/
theorem nums_take {l : List Int} {k : Nat} {x : Int} (h : l[k]? = some x) : numsB (l.take (k + 1)) = numsB (l.take k) ++ (32 :: Lib.itoa x) := by
  rw [take_succ h, numsB, List.flatMap_append]
  simp [numsB]
theorem nums_len : ∀ {l : List Int}, (∀ x ∈ l, I64 x) → (numsB l).length ≤ 22 * l.length
  | [], _ => by simp [numsB]
  | x :: l, h => by
    have ih := nums_len (l := l) fun y hy => h y (List.mem_cons_of_mem _ hy)
    have h1 := itoa_len (h x (by simp))
    have h2 : (itoaP x).data.toList = Lib.itoa x := rfl
    rw [h2] at h1
    simp only [numsB, List.flatMap_cons, List.length_append, List.length_cons] at ih ⊢
    omega
def lineB (n : Nd) : List UInt8 := bodyN n ++ [10]
theorem line_eq : lineN = lineB := funext fun n => by rw [lineN, lineF_data, lineB, bodyN]
theorem word_len (k : Int) : (wordN k).data.toList.length ≤ 3 := by
  unfold wordN
  repeat' split
  all_goals decide
set_option maxHeartbeats 4000000 in
theorem f108 (f : Fm) (hck : checkE f = 0) : PCalls Tryz.prog Γ 108 [fmA f] (str (printF f)) := by
  obtain ⟨hne, hl200, hv0, hv8, hok⟩ := check_ok hck
  have hP : printF f = bts (bVarsL ++ numsB [f.vars] ++ [10] ++ f.nodes.flatMap lineB) := by
    show (⟨(printL f).toArray⟩ : ByteArray) = _
    rw [printL, lineF_data, line_eq]
    rfl
  rw [hP]
  have hI : I64 f.vars := ⟨by omega, by omega⟩
  have hsv := itoa_len hI
  rw [← Lib.size_eq] at hsv
  have e0 : (⟨#[118, 97, 114, 115, 32]⟩ : ByteArray) ++ itoaP f.vars ++ ⟨#[10]⟩ = bts (bVarsL ++ numsB [f.vars] ++ [10]) := by
    have : (⟨#[118, 97, 114, 115, 32]⟩ : ByteArray) = bts (bVarsL ++ [32]) := rfl
    rw [this]
    show bts _ ++ bts _ ++ bts [10] = _
    rw [bts_app, bts_app]
    congr 1
    simp [numsB]
  have b0 : (#[118, 97, 114, 115, 32] : Array UInt8).size + (itoaP f.vars).size ≤ 9223372036854775807 := by
    have : (#[118, 97, 114, 115, 32] : Array UInt8).size = 5 := rfl
    omega
  have b1 : (#[118, 97, 114, 115, 32] : Array UInt8).size + (itoaP f.vars).size + (#[10] : Array UInt8).size ≤ 9223372036854775807 := by
    have : (#[10] : Array UInt8).size = 1 := rfl
    have : (#[118, 97, 114, 115, 32] : Array UInt8).size = 5 := rfl
    omega
  refine pcalls (ok108 Γ) fun σ => ?_
  simp only [go_sem, xQ, ↓reduceIte, xA, xM, xL, xT, xE, xN, xP, xR, xS, Tryz.f108]
  refine callB_use (f188 _ f.vars (Nat.le_refl _) hI) rfl ?_
  simp only [go_sem, xQ, ↓reduceIte, xA, xM, xL, xT, xE, xN, xP, xR, xS, b0, b1, e0]
  have hnums : ∀ n ∈ f.nodes, (numsN n).length ≤ 200 ∧ ∀ x ∈ numsN n, I64 x := fun n hn => by
    obtain ⟨i, hi, rfl⟩ := List.getElem_of_mem hn
    exact nums_ok (hok i _ (List.getElem?_eq_getElem hi)) hv8 (by omega)
  have hlb : ∀ n ∈ f.nodes, (lineB n).length ≤ 4500 := fun n hn => by
    obtain ⟨h1, h2⟩ := hnums n hn
    have h3 := nums_len h2
    have h4 := word_len n.kind
    simp only [lineB, bodyN, List.length_append, List.length_cons, List.length_nil]
    omega
  obtain ⟨H, hH⟩ : ∃ H, bVarsL ++ numsB [f.vars] ++ [10] = H := ⟨_, rfl⟩
  have hHl : H.length ≤ 1000 := by
    rw [← hH]
    have h3 := nums_len (l := [f.vars]) (fun x hx => by rw [List.mem_singleton.1 hx]; exact hI)
    have h5 : bVarsL.length = 4 := rfl
    simp only [List.length_append, List.length_cons, List.length_nil] at h3 ⊢
    omega
  rw [hH]
  have htk : ∀ k, (f.nodes.take k).length ≤ 200 := fun k => by rw [List.length_take]; omega
  have hpre : ∀ k, (H ++ (f.nodes.take k).flatMap lineB).length ≤ 1000 + 4500 * 200 := fun k => by
    have : ∀ l : List Nd, (∀ n ∈ l, (lineB n).length ≤ 4500) → (l.flatMap lineB).length ≤ 4500 * l.length := fun l => by
      induction l with
      | nil => intro _; simp
      | cons n l ih =>
        intro h
        have h1 := ih fun m hm => h m (List.mem_cons_of_mem _ hm)
        have h2 := h n (by simp)
        simp only [List.flatMap_cons, List.length_append, List.length_cons]
        omega
    have h1 := this (f.nodes.take k) fun n hn => hlb n (List.mem_of_mem_take hn)
    have h2 := htk k
    rw [List.length_append]
    omega
  refine SemC.loopK mixed f.nodes.length (fun k ρ σ' ds => ds = [] ∧ ρ 1 = .pp (fmC f) 0 ∧ ρ 4 = int k ∧ Drop σ' σ ∧ ρ 3 = str (bts (H ++ (f.nodes.take k).flatMap lineB))) (by kernel_rfl) ?_ ?_
  · exact ⟨rfl, by simp only [go_sem, xQ, ↓reduceIte, xA, xM, xL, xT, xE, xN, xP, xR, xS, fmC, hH], rfl, Drop.refl _, by simp only [go_sem, xQ, ↓reduceIte, xA, xM, xL, xT, xE, xN, xP, xR, xS, hH, List.take_zero, List.flatMap_nil, List.append_nil]⟩
  rintro k ρ σ' ds hk ⟨rfl, h1, h4, hD, h3⟩
  rcases get_or_end f.nodes k hk with ⟨n, hn, hlt, hd⟩ | hk
  · have hpk := hpre k
    obtain ⟨P, hPk⟩ : ∃ P, H ++ (f.nodes.take k).flatMap lineB = P := ⟨_, rfl⟩
    rw [hPk] at h3 hpk
    simp only [go_sem, xQ, ↓reduceIte, xA, xM, xL, xT, xE, xN, xP, xR, xS, h1, h4, h3, hlt, fmC, slN, ↓nd_part hn]
    intro b hb
    simp only [go_sem, xQ, ↓reduceIte, xA, xM, xL, xT, xE, xN, xP, xR, xS, h1, h4, h3, hlt, fmC, slN, ↓nd_part hn]
    have hkn := hok k n hn
    have klo := hkn.lo
    have khi := hkn.hi
    have hwl := word_len n.kind
    obtain ⟨hL1, hL2⟩ := hnums n (mem_of_get hn)
    have hPs := bts_size P
    have cw : (bts P).size + (wordN n.kind).size ≤ 9223372036854775807 := by rw [Lib.size_eq (wordN n.kind)]; omega
    have zb := hD.free hb
    by_cases hk1 : n.kind ≤ 1
    · obtain ⟨_, t2, t3⟩ := hkn.term hk1
      obtain ⟨L, hLn⟩ : ∃ L, numsN n = L := ⟨_, rfl⟩
      rw [hLn] at hL1 hL2
      have hLe : n.term.coeffs ++ [n.term.const] = L := by rw [← hLn, numsN, if_pos hk1]
      simp only [go_sem, xQ, ↓reduceIte, xA, xM, xL, xT, xE, xN, xP, xR, xS, h1, h4, h3, hk1]
      refine frzB_ptr 5 b (by simp only [go_sem, xQ, ↓reduceIte, xA, xM, xL, xT, xE, xN, xP, xR, xS]) (upd_same _ _ _) ?_
      simp only [go_sem, xQ, ↓reduceIte, xA, xM, xL, xT, xE, xN, xP, xR, xS, h1, h4, h3, ers_upd, upd_upd]
      have hcl : n.term.coeffs.length ≤ 200 := by
        have := congrArg List.length hLe
        simp only [List.length_append, List.length_cons, List.length_nil] at this
        omega
      refine appB_sl (m := 0) (n := n.term.coeffs.length) (σ0 := σ) (appT_sl el46 tk3 by3 el46 (by decide) rfl (by decide)) (hD.upd zb) (.e0 _ _ _) (ints_one _) (by simp [ints]) (by omega) (fun a2 σ2 hD2 hO2 hG2 => ?_)
      simp only [go_sem, xQ, ↓reduceIte, xA, xM, xL, xT, xE, xN, xP, xR, xS, h1, h4, h3]
      refine appB_sl (m := 0 + n.term.coeffs.length) (n := 1) (σ0 := σ) (appT_sl el46 tk3 by3 el46 (by decide) rfl (by decide)) hD2 hG2 rfl rfl (by omega) (fun a3 σ3 hD3 hO3 hG3 => ?_)
      have hG4 : Grow σ σ3 1 a3 (ints L) L.length := by
        rw [← hLe]
        simpa [ints, int] using hG3
      clear hG3
      rcases hG4 with ⟨_, h, _⟩ | ⟨b6, c6, rfl, g1, g2, g3⟩
      · rw [← hLe] at h; simp [ints] at h
      simp only [go_sem, xQ, ↓reduceIte, xA, xM, xL, xT, xE, xN, xP, xR, xS, h1, h4, h3]
      refine callB_use (f199 n.kind klo khi) rfl ?_
      simp only [go_sem, xQ, ↓reduceIte, xA, xM, xL, xT, xE, xN, xP, xR, xS, h1, h4, h3, cw, app_w]
      refine SemC.loopK mixed L.length (fun j ρ σ'' ds => ds = [] ∧ σ'' = σ3 ∧ ρ 1 = .pp (fmC f) 0 ∧ ρ 4 = int k ∧ ρ 6 = .own b6 1 0 L.length ∧ ρ 7 = int j ∧ ρ 3 = str (bts (P ++ (wordN n.kind).data.toList ++ numsB (L.take j)))) (by kernel_rfl) ?_ ?_
      · refine ⟨rfl, rfl, ?_, ?_, ?_, ?_, ?_⟩
        all_goals simp only [go_sem, xQ, ↓reduceIte, xA, xM, xL, xT, xE, xN, xP, xR, xS, h1, h4, h3, fmC, slI, List.take_zero, numsB, List.flatMap_nil, List.append_nil]
      rintro j ρ σ'' ds hj ⟨rfl, rfl, h1, h4, h6, h7, h3⟩
      rcases get_or_end L j hj with ⟨x, hx, hltj, hdj⟩ | hj
      · have hX := hL2 x (mem_of_get hx)
        have hXl := itoa_len hX
        rw [← Lib.size_eq] at hXl
        have hnl := nums_len (l := L.take j) fun y hy => hL2 y (List.mem_of_mem_take hy)
        obtain ⟨Y, hY⟩ : ∃ Y, P ++ (wordN n.kind).data.toList ++ numsB (L.take j) = Y := ⟨_, rfl⟩
        have hYl : Y.length ≤ 2000000 := by rw [← hY]; simp only [List.length_append]; rw [List.length_take] at hnl; omega
        rw [hY] at h3
        have hYs := bts_size Y
        have c1 : (bts Y).size + (#[32] : Array UInt8).size ≤ 9223372036854775807 := by
          have : (#[32] : Array UInt8).size = 1 := rfl
          omega
        have c2 : (bts Y).size + (#[32] : Array UInt8).size + (itoaP x).size ≤ 9223372036854775807 := by
          have : (#[32] : Array UInt8).size = 1 := rfl
          omega
        have hgx : (ints L)[j]? = some (int x) := by rw [ints, List.getElem?_map, hx]; rfl
        simp only [go_sem, xQ, ↓reduceIte, xA, xM, xL, xT, xE, xN, xP, xR, xS, h1, h4, h6, h7, h3, hltj, slI, g2, hgx, c1, Int.toNat_natCast, Nat.add_zero, Nat.zero_add]
        refine callB_use (f188 _ x (Nat.le_refl _) hX) rfl ?_
        simp only [go_sem, xQ, ↓reduceIte, xA, xM, xL, xT, xE, xN, xP, xR, xS, h1, h4, h6, h7, h3, c2, app_sp]
        exact ⟨by rw [wrap_succ _ (by omega)], by rw [nums_take hx, ← hY]; simp⟩
      · subst hj
        rw [List.take_length] at h3
        have hnl := nums_len (l := L) hL2
        obtain ⟨Y, hY⟩ : ∃ Y, P ++ (wordN n.kind).data.toList ++ numsB L = Y := ⟨_, rfl⟩
        have hYl : Y.length ≤ 2000000 := by rw [← hY]; simp only [List.length_append]; omega
        rw [hY] at h3
        have hYs := bts_size Y
        have c1 : (bts Y).size + (#[10] : Array UInt8).size ≤ 9223372036854775807 := by
          have : (#[10] : Array UInt8).size = 1 := rfl
          omega
        simp only [go_sem, xQ, ↓reduceIte, xA, xM, xL, xT, xE, xN, xP, xR, xS, h1, h4, h6, h7, h3, slI, Nat.lt_irrefl, c1, app_nl]
        refine ⟨hlt, by rw [wrap_succ _ (by omega)], hD3, ?_⟩
        rw [take_succ hn, List.flatMap_append, List.flatMap_singleton, ← List.append_assoc, hPk, lineB, bodyN, hLn, ← hY]
        simp
    · have hLn : numsN n = n.kids := by rw [numsN, if_neg hk1]
      rw [hLn] at hL1 hL2
      obtain ⟨L, hL⟩ : ∃ L, n.kids = L := ⟨_, rfl⟩
      rw [hL] at hL1 hL2 hLn
      simp only [go_sem, xQ, ↓reduceIte, xA, xM, xL, xT, xE, xN, xP, xR, xS, h1, h4, h3, hk1, hL]
      refine callB_use (f199 n.kind klo khi) rfl ?_
      simp only [go_sem, xQ, ↓reduceIte, xA, xM, xL, xT, xE, xN, xP, xR, xS, h1, h4, h3, cw, app_w, hL]
      refine SemC.loopK mixed L.length (fun j ρ σ'' ds => ds = [] ∧ σ'' = upd σ' b (some (.row [.v (.int .i64 n.kind), .sl (ints n.term.coeffs) n.term.coeffs.length, .v (.int .i64 n.term.const), .sl (ints L) L.length] 4 1)) ∧ ρ 1 = .pp (fmC f) 0 ∧ ρ 4 = int k ∧ ρ 6 = slI L ∧ ρ 7 = int j ∧ ρ 3 = str (bts (P ++ (wordN n.kind).data.toList ++ numsB (L.take j)))) (by kernel_rfl) ?_ ?_
      · refine ⟨rfl, rfl, ?_, ?_, ?_, ?_, ?_⟩
        all_goals simp only [go_sem, xQ, ↓reduceIte, xA, xM, xL, xT, xE, xN, xP, xR, xS, h1, h4, h3, hL, fmC, slI, List.take_zero, numsB, List.flatMap_nil, List.append_nil]
      rintro j ρ σ'' ds hj ⟨rfl, rfl, h1, h4, h6, h7, h3⟩
      rcases get_or_end L j hj with ⟨x, hx, hltj, hdj⟩ | hj
      · have hX := hL2 x (mem_of_get hx)
        have hXl := itoa_len hX
        rw [← Lib.size_eq] at hXl
        have hnl := nums_len (l := L.take j) fun y hy => hL2 y (List.mem_of_mem_take hy)
        obtain ⟨Y, hY⟩ : ∃ Y, P ++ (wordN n.kind).data.toList ++ numsB (L.take j) = Y := ⟨_, rfl⟩
        have hYl : Y.length ≤ 2000000 := by rw [← hY]; simp only [List.length_append]; rw [List.length_take] at hnl; omega
        rw [hY] at h3
        have hYs := bts_size Y
        have c1 : (bts Y).size + (#[32] : Array UInt8).size ≤ 9223372036854775807 := by
          have : (#[32] : Array UInt8).size = 1 := rfl
          omega
        have c2 : (bts Y).size + (#[32] : Array UInt8).size + (itoaP x).size ≤ 9223372036854775807 := by
          have : (#[32] : Array UInt8).size = 1 := rfl
          omega
        have hgx : (ints L)[j]? = some (int x) := by rw [ints, List.getElem?_map, hx]; rfl
        simp only [go_sem, xQ, ↓reduceIte, xA, xM, xL, xT, xE, xN, xP, xR, xS, h1, h4, h6, h7, h3, hltj, slI, hL, hgx, c1, Int.toNat_natCast, Nat.add_zero, Nat.zero_add]
        refine callB_use (f188 _ x (Nat.le_refl _) hX) rfl ?_
        simp only [go_sem, xQ, ↓reduceIte, xA, xM, xL, xT, xE, xN, xP, xR, xS, h1, h4, h6, h7, h3, c2, app_sp]
        exact ⟨by rw [wrap_succ _ (by omega)], by rw [nums_take hx, ← hY]; simp⟩
      · subst hj
        rw [List.take_length] at h3
        have hnl := nums_len (l := L) hL2
        obtain ⟨Y, hY⟩ : ∃ Y, P ++ (wordN n.kind).data.toList ++ numsB L = Y := ⟨_, rfl⟩
        have hYl : Y.length ≤ 2000000 := by rw [← hY]; simp only [List.length_append]; omega
        rw [hY] at h3
        have hYs := bts_size Y
        have c1 : (bts Y).size + (#[10] : Array UInt8).size ≤ 9223372036854775807 := by
          have : (#[10] : Array UInt8).size = 1 := rfl
          omega
        simp only [go_sem, xQ, ↓reduceIte, xA, xM, xL, xT, xE, xN, xP, xR, xS, h1, h4, h6, h7, h3, slI, Nat.lt_irrefl, c1, app_nl]
        refine ⟨hlt, by rw [wrap_succ _ (by omega)], hD.upd zb, ?_⟩
        rw [take_succ hn, List.flatMap_append, List.flatMap_singleton, ← List.append_assoc, hPk, lineB, bodyN, hLn, ← hY]
        simp
  · subst hk
    rw [List.take_length] at h3
    simp only [go_sem, xQ, ↓reduceIte, xA, xM, xL, xT, xE, xN, xP, xR, xS, h1, h4, h3, Nat.lt_irrefl, fmC, slN]
    exact retP_drop hD rfl
end Go.AL

/- Parse of formulas, of the reference. -/
set_option linter.unusedVariables false
set_option linter.unusedSimpArgs false
namespace Go.AL
open Go.Proofs
variable {Γ : Glob}
attribute [local irreducible] codeW opsW dopsW
theorem word_kind {w : List UInt8} {k : Nat} (h : ∀ j : Nat, j < k → wordN j ≠ bts w) : (k ≤ 4 → wordN k = bts w → kindO w = some (k : Int)) ∧ (k = 5 → kindO w = none) := by
  have e : ∀ j : Nat, j < k → j ≤ 4 → getS kindsL (bts w) = getS (kindsL.drop (j + 1)) (bts w) := fun j => by
    induction j with
    | zero =>
      intro hj _
      have := h 0 hj
      rw [kindsL, getS, if_neg (fun e => this e.symm)]; rfl
    | succ j ih =>
      intro hj h4
      rw [ih (by omega) (by omega)]
      have := h (j + 1) hj
      match j, h4 with
      | 0, _ => rw [kindsL, List.drop, List.drop, getS, if_neg (fun e => this e.symm)]; rfl
      | 1, _ => rw [kindsL, List.drop, List.drop, List.drop, getS, if_neg (fun e => this e.symm)]; rfl
      | 2, _ => rw [kindsL, List.drop, List.drop, List.drop, List.drop, getS, if_neg (fun e => this e.symm)]; rfl
      | 3, _ => rw [kindsL, List.drop, List.drop, List.drop, List.drop, List.drop, getS, if_neg (fun e => this e.symm)]; rfl
  refine ⟨fun hk hw => ?_, fun hk => ?_⟩
  · rw [kindO]
    match k, hk with
    | 0, _ => exact if_pos (show bts w = bGe from hw.symm)
    | 1, _ => rw [e 0 (by omega) (by omega)]; exact if_pos (show bts w = bEq from hw.symm)
    | 2, _ => rw [e 1 (by omega) (by omega)]; exact if_pos (show bts w = bNot from hw.symm)
    | 3, _ => rw [e 2 (by omega) (by omega)]; exact if_pos (show bts w = bAnd from hw.symm)
    | 4, _ => rw [e 3 (by omega) (by omega)]; exact if_pos (show bts w = bOr from hw.symm)
  · subst hk
    rw [kindO, e 4 (by omega) (by omega)]; rfl
theorem str_eq2 (a : List UInt8) (b : ByteArray) : (b.toList == (bts a).toList) = decide (b = bts a) := by
  by_cases h : b = bts a
  · rw [h, decide_eq_true rfl]; exact beq_self_eq_true _
  · rw [decide_eq_false h, Lib.toList_data, Lib.toList_data]
    exact beq_eq_false_iff_ne.2 fun e => h (ByteArray.ext (Array.toList_inj.1 e))
/-- The cells of nodes, told before they are handed on. -/
def RawOk (cs : List AV) (l : List Nd) : Prop := ∀ σ1 σ2 : Sig, FzL σ1 σ2 cs (l.flatMap ndC)
theorem RawOk.nil : RawOk [] [] := fun _ _ => .nil
theorem RawOk.app {cs xs : List AV} {l : List Nd} {n : Nd} (h : RawOk cs l) (hx : ∀ σ1 σ2 : Sig, FzL σ1 σ2 xs (ndC n)) : RawOk (cs ++ xs) (l ++ [n]) := fun σ1 σ2 => by
  rw [List.flatMap_append, List.flatMap_singleton]
  exact (h σ1 σ2).app (hx σ1 σ2)
theorem Grow.fzT {σ0 σ σt : Sig} {s n : Nat} {a : AV} {cs cs' : List AV} (h : Grow σ0 σ s a cs n) (ht : ∀ b, σ0 b = none → σt b = none) (hk : FzL σ σt cs cs') : Fz σ σt a (.sl cs' n) := by
  rcases h with ⟨h, rfl, rfl⟩ | ⟨b, c, rfl, h1, h2, h3⟩
  · cases hk
    rcases h with rfl | rfl
    · exact .nil
    · exact .e0
  · refine .own h2 (ht b h1) ?_
    have : (cs.drop (0 * s)).take (n * s) = cs := by simp [← h3]
    rw [this]
    exact hk
set_option maxHeartbeats 8000000 in
set_option maxRecDepth 20000 in
theorem f109 (s : ByteArray) (hs : s.size ≤ 1000000) : PCalls Tryz.prog Γ 109 [str s] (.tup [fmA (parR s).1, int (parR s).2.1, int (parR s).2.2]) := by
  obtain ⟨rows, hrows⟩ : ∃ rows, cutL 10 s.data.toList = rows := ⟨_, rfl⟩
  have hrne : rows ≠ [] := hrows ▸ cutL_ne 10 _
  have hrm : ∀ r ∈ rows, (10 : UInt8) ∉ r ∧ r.length ≤ s.size := fun r hr => by
    rw [Lib.size_eq]
    exact cutL_mem 10 s.data.toList r (hrows ▸ hr)
  have hrl : rows.length ≤ s.size + 1 := by
    rw [← hrows, Lib.size_eq]
    exact cutL_len 10 _
  have hrp := List.length_pos_iff.2 hrne
  have hsl : slStr (rowsB 10 s) = .sl (strs (rows.map bts)) rows.length := by rw [rowsB, hrows, slStr, List.length_map]
  have hw1 : IntKind.i64.wrap ((rows.length : Int) - 1) = ((rows.length - 1 : Nat) : Int) := by
    rw [wrap_i64 _ (by omega) (by omega)]; omega
  refine pcalls (ok109 Γ) fun σ => ?_
  simp only [go_sem, xQ, ↓reduceIte, xA, xM, xL, xT, xE, xN, xP, xR, xS, Tryz.f109, str]
  intro b2 hb2
  by_cases h0 : (16384 : Int) < s.size
  · rw [parR, if_pos h0]
    simp only [go_sem, xQ, ↓reduceIte, xA, xM, xL, xT, xE, xN, xP, xR, xS, h0]
    exact ⟨.tup (.cons (.agg (.cons (.refl _) (.cons .nil .nil))) (.cons (.refl _) (.cons (.refl _) .nil))), by repeat (first | exact Drop.refl _ | assumption | refine Drop.upd ?_ (by assumption))⟩
  rw [parR, if_neg h0, hrows]
  simp only [go_sem, xQ, ↓reduceIte, xA, xM, xL, xT, xE, xN, xP, xR, xS, h0]
  refine callB_use (f189 10 s hs) rfl ?_
  simp only [go_sem, xQ, ↓reduceIte, xA, xM, xL, xT, xE, xN, xP, xR, xS, hsl, hw1]
  intro b7 hb7
  obtain ⟨n72, hb7'⟩ := un hb7
  have N : ¬ b7 = b2 ∧ ¬ b2 = b7 := ⟨n72, Ne.symm n72⟩
  simp only [go_sem, xQ, ↓reduceIte, xA, xM, xL, xT, xE, xN, xP, xR, xS, N]
  refine SemC.loopK mixed (rows.length - 1) (fun k ρ σ' ds => ds = [] ∧ (ρ 2 = .v (.pointer (some ⟨b2, 0, none⟩)) ∧ ρ 5 = .sl (strs (rows.map bts)) rows.length ∧ ρ 6 = int (rows.length - 1 : Nat) ∧ ρ 7 = .v (.pointer (some ⟨b7, 0, none⟩))) ∧ ρ 8 = int k ∧ ∃ f a cs, (parL rows 0 fm0 = parL (rows.drop k) k f ∧ f.nodes.length ≤ k ∧ (∀ n ∈ f.nodes, NdFit n) ∧ RawOk cs f.nodes) ∧ σ' b2 = some (.row [int 0, .v (.slice none 0 0)] 2 1) ∧ σ' b7 = some (.row [int f.vars, a] 2 1) ∧ Grow σ σ' 4 a cs f.nodes.length ∧ Drop σ' σ) (by kernel_rfl) ?_ ?_
  · refine ⟨rfl, by simp only [go_sem, xQ, ↓reduceIte, xA, xM, xL, xT, xE, xN, xP, xR, xS, hw1], rfl, fm0, .v (.slice none 0 0), [], ⟨rfl, Nat.le_refl _, (fun n hn => by cases hn), .nil⟩, ?_, ?_, .nil _ _ _, ?_⟩
    · simp [upd, N, int]
    · simp [upd, N, int, fm0]
    · repeat (first | exact Drop.refl _ | assumption | refine Drop.upd ?_ (by assumption))
  rintro k ρ σ' ds hk ⟨rfl, H, h8, f, a, cs, ⟨hz, hfl, hfn, hraw⟩, q2, q7, hGr, hD⟩
  by_cases hkk : k < rows.length - 1
  · have hkk' : (k : Int) < ((rows.length - 1 : Nat) : Int) := by omega
    have hkk2 : (k : Int) < (rows.length : Int) := by omega
    obtain ⟨r, hr⟩ : ∃ r, rows[k]? = some r := ⟨rows[k]'(by omega), List.getElem?_eq_getElem _⟩
    have hd := drop_of_get hr
    have hrs : rows.drop (k + 1) ≠ [] := fun e => by
      have := congrArg List.length e
      rw [List.length_drop] at this
      simp at this
      omega
    obtain ⟨r10, rle⟩ := hrm r (mem_of_get hr)
    rw [hd] at hz
    have hsg := strs_get hr
    obtain ⟨w, W, hW⟩ := cutL_cons 32 r
    have hWl : W.length ≤ 1000000 := by have := cutL_len 32 r; rw [hW] at this; simp at this; omega
    have hWm : ∀ x ∈ W, x.length ≤ 1000000 := fun x hx => by have := (cutL_mem 32 r x (by rw [hW]; simp [hx])).2; omega
    have hro : slStr (rowsB 32 (bts r)) = .sl (str (bts w) :: strs (W.map bts)) (W.length + 1) := by rw [rowsB, bts_data, hW]; exact slW_cons w W
    have g1 : (1 : Int) ≤ ((W.length + 1 : Nat) : Int) := by omega
    have g0 : (0 : Int) < ((W.length + 1 : Nat) : Int) := by omega
    simp only [go_sem, xQ, ↓reduceIte, xA, xM, xL, xT, xE, xN, xP, xR, xS, H, h8, N, hkk', hkk2, hsg, Int.toNat_natCast, Int.natCast_nonneg, Nat.mul_one]
    refine callB_use (f189 32 (bts r) (by rw [bts_size]; omega)) rfl ?_
    simp only [go_sem, xQ, ↓reduceIte, xA, xM, xL, xT, xE, xN, xP, xR, xS, H, h8, N, hro, g1, g0]
    refine callB_use (f200 W hWl hWm) (by simp [slW, slStr, strs_take]) ?_
    by_cases hk0 : (k : Int) = 0
    · have hk0' : k = 0 := by omega
      subst hk0'
      rw [parL_head hrs hW] at hz
      cases hi : intsO 13 W with
      | none =>
        have hho : headO w W = none := by rw [headO, hi]; split <;> rfl
        rw [hho] at hz
        simp only [go_sem, xQ, ↓reduceIte, xA, xM, xL, xT, xE, xN, xP, xR, xS, H, h8, N, hk0, intsR, hi, g0, Option.isSome_none, Option.getD_none, q2, q7]
        rw [hz]
        exact ⟨.tup (.cons (.agg (.cons (.refl _) (.cons .nil .nil))) (.cons (.refl _) (.cons (.refl _) .nil))), by repeat (first | exact hD | refine Drop.upd ?_ (by assumption))⟩
      | some ls =>
        rw [headO, hi] at hz
        by_cases hv : w = bVarsL
        · have hvc : ((bts w).toList == (⟨#[118, 97, 114, 115]⟩ : ByteArray).toList) = true := by rw [hv]; exact beq_self_eq_true _
          rw [if_pos hv] at hz
          cases ls with
          | nil =>
            have e01 : ¬ (0 : Int) = 1 := by decide
            simp only [go_sem, xQ, ↓reduceIte, xA, xM, xL, xT, xE, xN, xP, xR, xS, H, h8, N, hk0, intsR, hi, hvc, g0, e01, Option.isSome_some, Option.getD_some, q2, q7]
            rw [hz]
            exact ⟨.tup (.cons (.agg (.cons (.refl _) (.cons .nil .nil))) (.cons (.refl _) (.cons (.refl _) .nil))), by repeat (first | exact hD | refine Drop.upd ?_ (by assumption))⟩
          | cons v ls =>
            cases ls with
            | nil =>
              simp only [go_sem, xQ, ↓reduceIte, xA, xM, xL, xT, xE, xN, xP, xR, xS, H, h8, N, hk0, intsR, hi, hvc, g0, Option.isSome_some, Option.getD_some, q2, q7]
              have w01 : IntKind.i64.wrap (0 + 1) = 1 := by decide
              exact ⟨hkk, by rw [w01], ⟨v, f.nodes⟩, a, cs, ⟨hz, by show f.nodes.length ≤ 1; omega, hfn, hraw⟩, rfl, hGr.updW (hGr.neS q7 (by decide)) _, hD.upd hb7'⟩
            | cons v2 ls =>
              have e01 : ¬ (((ls.length + 1 + 1 : Nat)) : Int) = 1 := by omega
              simp only [go_sem, xQ, ↓reduceIte, xA, xM, xL, xT, xE, xN, xP, xR, xS, H, h8, N, hk0, intsR, hi, hvc, g0, e01, Option.isSome_some, Option.getD_some, q2, q7]
              rw [hz]
              exact ⟨.tup (.cons (.agg (.cons (.refl _) (.cons .nil .nil))) (.cons (.refl _) (.cons (.refl _) .nil))), by repeat (first | exact hD | refine Drop.upd ?_ (by assumption))⟩
        · have hvc : ((bts w).toList == (⟨#[118, 97, 114, 115]⟩ : ByteArray).toList) = false := by
            rw [Lib.toList_data, Lib.toList_data]
            exact beq_eq_false_iff_ne.2 hv
          rw [if_neg hv] at hz
          simp only [go_sem, xQ, ↓reduceIte, xA, xM, xL, xT, xE, xN, xP, xR, xS, H, h8, N, hk0, intsR, hi, hvc, g0, Option.isSome_some, Option.getD_some, q2, q7]
          rw [hz]
          exact ⟨.tup (.cons (.agg (.cons (.refl _) (.cons .nil .nil))) (.cons (.refl _) (.cons (.refl _) .nil))), by repeat (first | exact hD | refine Drop.upd ?_ (by assumption))⟩
    · rw [parL_node hrs (by omega) hW] at hz
      obtain ⟨L, hL⟩ : ∃ L, (intsO 13 W).getD [] = L := ⟨_, rfl⟩
      obtain ⟨is, his⟩ : ∃ is, (intsO 13 W).isSome = is := ⟨_, rfl⟩
      simp only [go_sem, xQ, ↓reduceIte, xA, xM, xL, xT, xE, xN, xP, xR, xS, H, h8, N, hk0, intsR, hL, his]
      refine SemC.loopK mixed 5 (fun j ρ σ'' ds => ds = [] ∧ σ'' = σ' ∧ (ρ 2 = .v (.pointer (some ⟨b2, 0, none⟩)) ∧ ρ 5 = .sl (strs (rows.map bts)) rows.length ∧ ρ 6 = int (rows.length - 1 : Nat) ∧ ρ 7 = .v (.pointer (some ⟨b7, 0, none⟩)) ∧ ρ 8 = int k ∧ ρ 9 = .sl (str (bts w) :: strs (W.map bts)) (W.length + 1) ∧ ρ 10 = slI L ∧ ρ 11 = .v (.bool is)) ∧ ρ 12 = int j ∧ ∀ i : Nat, i < j → wordN i ≠ bts w) (by kernel_rfl) ?_ ?_
      · exact ⟨rfl, rfl, by simp only [go_sem, xQ, ↓reduceIte, xA, xM, xL, xT, xE, xN, xP, xR, xS, H, h8, hL, his, slI], rfl, fun i hi => absurd hi (Nat.not_lt_zero i)⟩
      clear H h8
      rintro j ρ σ'' ds hj ⟨rfl, rfl, H, h12, hne⟩
      by_cases hj4 : j ≤ 4
      · have hj4' : (j : Int) ≤ 4 := by omega
        have hmin : ¬ (4 : Int) < j := by omega
        simp only [go_sem, xQ, ↓reduceIte, xA, xM, xL, xT, xE, xN, xP, xR, xS, H, h12, N, hj4', hmin]
        refine dcallB_use (f199 j (by omega) hj4') rfl ?_
        simp only [go_sem, xQ, ↓reduceIte, xA, xM, xL, xT, xE, xN, xP, xR, xS, H, h12, N, g0, str_eq2]
        by_cases hw : wordN j = bts w
        · have hko := (word_kind hne).1 hj4 hw
          have hg4 : ¬ (4 : Int) < j := by omega
          simp only [go_sem, xQ, ↓reduceIte, xA, xM, xL, xT, xE, xN, xP, xR, xS, H, h12, N, hw, decide_true]
          cases hi : intsO 13 W with
          | none =>
            rw [hi] at hL his
            have hz : parL rows 0 fm0 = (fm0, (k : Int), 23) := by rw [hz, nodeO, hko, hi]
            subst his
            simp only [go_sem, xQ, ↓reduceIte, xA, xM, xL, xT, xE, xN, xP, xR, xS, H, h12, N, Option.isSome_none, q2, q7]
            rw [hz]
            exact ⟨.tup (.cons (.agg (.cons (.refl _) (.cons .nil .nil))) (.cons (.refl _) (.cons (.refl _) .nil))), by repeat (first | exact hD | refine Drop.upd ?_ (by assumption))⟩
          | some l =>
            rw [hi] at hL his
            obtain rfl : l = L := hL
            obtain rfl : true = is := his
            have hll := intsO_len 13 W _ hi
            by_cases hj1 : (j : Int) ≤ 1
            · by_cases hl : l = []
              · subst hl
                have e0 : ((([] : List Int).length : Nat) : Int) = 0 := rfl
                have hz : parL rows 0 fm0 = (fm0, (k : Int), 23) := by rw [hz, nodeO, hko, hi]; simp [hj1]
                simp only [go_sem, xQ, ↓reduceIte, xA, xM, xL, xT, xE, xN, xP, xR, xS, H, h12, N, hg4, hj1, e0, slI, q2, q7]
                rw [hz]
                exact ⟨.tup (.cons (.agg (.cons (.refl _) (.cons .nil .nil))) (.cons (.refl _) (.cons (.refl _) .nil))), by repeat (first | exact hD | refine Drop.upd ?_ (by assumption))⟩
              · obtain ⟨l', z, rfl⟩ := snoc_of hl
                have hn : nodeO w W = some ⟨j, ⟨l', z⟩, []⟩ := by rw [nodeO, hko, hi]; simp [hj1]
                rw [hn] at hz
                simp only [List.length_append, List.length_cons, List.length_nil] at hll
                have e0 : ¬ (((l' ++ [z]).length : Nat) : Int) = 0 := by simp only [List.length_append, List.length_cons, List.length_nil]; omega
                have e1 : IntKind.i64.wrap ((((l' ++ [z]).length : Nat) : Int) - 1) = (l'.length : Int) := by
                  simp only [List.length_append, List.length_cons, List.length_nil]; rw [wrap_i64 _ (by omega) (by omega)]; omega
                have e2 : (l'.length : Int) ≤ (((l' ++ [z]).length : Nat) : Int) := by simp only [List.length_append, List.length_cons, List.length_nil]; omega
                have e3 : (l'.length : Int) < (((l' ++ [z]).length : Nat) : Int) := by simp only [List.length_append, List.length_cons, List.length_nil]; omega
                have e33 : l'.length < (l' ++ [z]).length := by simp
                have e4 : (ints (l' ++ [z]))[l'.length]? = some (int z) := by simp [ints]
                have e5 : (ints (l' ++ [z])).take l'.length = ints l' := by simp [ints, List.take_append]
                have hca := hGr.cellsX
                have hoa := hGr.oneX
                simp only [go_sem, xQ, ↓reduceIte, xA, xM, xL, xT, xE, xN, xP, xR, xS, H, h12, N, hg4, hj1, e0, e1, e2, e3, e33, e4, e5, slI, q2, q7, Int.toNat_natCast, Nat.add_zero, Nat.sub_zero]
                refine appB_sl (cs := cs) (m := f.nodes.length) (n := 1) (appT_sl el58 tk138 by138 el58 (by decide) rfl (by decide)) hD hGr rfl rfl (by omega) (fun a' σ3 hD3 hO3 hG3 => ?_)
                have w2 : σ3 b2 = some (.row [int 0, .v (.slice none 0 0)] 2 1) := by rw [hO3 b2 (hGr.neS q2 (by decide)) (by simp [q2])]; exact q2
                have w7 : σ3 b7 = some (.row [int f.vars, a] 2 1) := by rw [hO3 b7 (hGr.neS q7 (by decide)) (by simp [q7])]; exact q7
                have hc2 := hG3.cellsX
                have ho2 := hG3.oneX
                simp only [go_sem, xQ, ↓reduceIte, xA, xM, xL, xT, xE, xN, xP, xR, xS, H, N, w2, w7, hc2, ho2]
                have hfit := nodeO_fit hn hWl
                refine ⟨hkk, by rw [wrap_succ _ (by omega)], ⟨f.vars, f.nodes ++ [⟨j, ⟨l', z⟩, []⟩]⟩, a', _, ⟨hz, by simp only [List.length_append, List.length_cons, List.length_nil]; omega, fun x hx => ?_, hraw.app (n := ⟨j, ⟨l', z⟩, []⟩) fun σ1 σ2 => .cons (.refl _) (.cons (.refl _) (.cons (.refl _) (.cons .nil .nil)))⟩, rfl, ?_, hD3.upd hb7'⟩
                · rcases List.mem_append.1 hx with hx | hx
                  · exact hfn x hx
                  · rw [List.mem_singleton.1 hx]; exact hfit
                · have hg := hG3.updW (hG3.neS w7 (by decide)) (some (.row [int f.vars, a'] 2 1))
                  rw [List.length_append]
                  exact hg
            · have hn : nodeO w W = some ⟨j, ⟨[], 0⟩, l⟩ := by rw [nodeO, hko, hi]; simp [hj1]
              rw [hn] at hz
              simp only [go_sem, xQ, ↓reduceIte, xA, xM, xL, xT, xE, xN, xP, xR, xS, H, h12, N, hg4, hj1, slI, q2, q7]
              refine appB_sl (cs := cs) (m := f.nodes.length) (n := 1) (appT_sl el58 tk138 by138 el58 (by decide) rfl (by decide)) hD hGr rfl rfl (by omega) (fun a' σ3 hD3 hO3 hG3 => ?_)
              have w2 : σ3 b2 = some (.row [int 0, .v (.slice none 0 0)] 2 1) := by rw [hO3 b2 (hGr.neS q2 (by decide)) (by simp [q2])]; exact q2
              have w7 : σ3 b7 = some (.row [int f.vars, a] 2 1) := by rw [hO3 b7 (hGr.neS q7 (by decide)) (by simp [q7])]; exact q7
              have hc2 := hG3.cellsX
              have ho2 := hG3.oneX
              simp only [go_sem, xQ, ↓reduceIte, xA, xM, xL, xT, xE, xN, xP, xR, xS, H, N, w2, w7, hc2, ho2]
              have hfit := nodeO_fit hn hWl
              refine ⟨hkk, by rw [wrap_succ _ (by omega)], ⟨f.vars, f.nodes ++ [⟨j, ⟨[], 0⟩, l⟩]⟩, a', _, ⟨hz, by simp only [List.length_append, List.length_cons, List.length_nil]; omega, fun x hx => ?_, hraw.app (n := ⟨j, ⟨[], 0⟩, l⟩) fun σ1 σ2 => .cons (.refl _) (.cons .nil (.cons (.refl _) (.cons (.refl _) .nil)))⟩, rfl, ?_, hD3.upd hb7'⟩
              · rcases List.mem_append.1 hx with hx | hx
                · exact hfn x hx
                · rw [List.mem_singleton.1 hx]; exact hfit
              · have hg := hG3.updW (hG3.neS w7 (by decide)) (some (.row [int f.vars, a'] 2 1))
                rw [List.length_append]
                exact hg
        · simp only [go_sem, xQ, ↓reduceIte, xA, xM, xL, xT, xE, xN, xP, xR, xS, H, h12, N, hw, decide_false]
          refine ⟨by omega, by rw [wrap_succ _ (by omega)], fun i hi => ?_⟩
          rcases Nat.lt_succ_iff_lt_or_eq.1 hi with h | rfl
          · exact hne i h
          · exact hw
      · have hj5 : j = 5 := by omega
        subst hj5
        have hko := (word_kind hne).2 rfl
        have hz : parL rows 0 fm0 = (fm0, (k : Int), 23) := by rw [hz, nodeO, hko]
        have f54 : ¬ ((5 : Nat) : Int) ≤ 4 := by decide
        have f45 : (4 : Int) < ((5 : Nat) : Int) := by decide
        cases is
        · simp only [go_sem, xQ, ↓reduceIte, xA, xM, xL, xT, xE, xN, xP, xR, xS, H, h12, N, f54, f45, q2, q7]
          rw [hz]
          exact ⟨.tup (.cons (.agg (.cons (.refl _) (.cons .nil .nil))) (.cons (.refl _) (.cons (.refl _) .nil))), by repeat (first | exact hD | refine Drop.upd ?_ (by assumption))⟩
        · simp only [go_sem, xQ, ↓reduceIte, xA, xM, xL, xT, xE, xN, xP, xR, xS, H, h12, N, f54, f45, q2, q7]
          rw [hz]
          exact ⟨.tup (.cons (.agg (.cons (.refl _) (.cons .nil .nil))) (.cons (.refl _) (.cons (.refl _) .nil))), by repeat (first | exact hD | refine Drop.upd ?_ (by assumption))⟩
  · have hkw : k = rows.length - 1 := by omega
    have hkk' : ¬ (k : Int) < ((rows.length - 1 : Nat) : Int) := by omega
    obtain ⟨r, hr⟩ : ∃ r, rows[k]? = some r := ⟨rows[k]'(by omega), List.getElem?_eq_getElem _⟩
    have hd : rows.drop k = [r] := by rw [drop_of_get hr, List.drop_eq_nil_of_le (by omega)]
    rw [hd] at hz
    rw [← hkw] at H hkk'
    have hsg := strs_get hr
    have hkk2 : (k : Int) < (rows.length : Int) := by omega
    have hca := hGr.cellsX
    have hoa := hGr.oneX
    by_cases hre : r = []
    · subst hre
      by_cases hk0 : (k : Int) = 0
      · obtain rfl : k = 0 := by omega
        rw [parL_zero] at hz
        have g00 : (0 : Int) < (rows.length : Int) := by omega
        simp only [go_sem, xQ, ↓reduceIte, xA, xM, xL, xT, xE, xN, xP, xR, xS, H, h8, N, hkk', hkk2, g00, hrp, hsg, hk0, bts_nil, Int.toNat_natCast, Int.natCast_nonneg, Nat.mul_one, q2, q7]
        rw [hz]
        exact ⟨.tup (.cons (.agg (.cons (.refl _) (.cons .nil .nil))) (.cons (.refl _) (.cons (.refl _) .nil))), by repeat (first | exact hD | refine Drop.upd ?_ (by assumption))⟩
      · rw [parL_last (by omega)] at hz
        simp only [go_sem, xQ, ↓reduceIte, xA, xM, xL, xT, xE, xN, xP, xR, xS, H, h8, N, hkk', hkk2, hsg, hk0, bts_nil, Int.toNat_natCast, Int.natCast_nonneg, Nat.mul_one, q2, q7, hca, hoa]
        refine callB_bor (f44 f (by omega) hfn) rfl (.cons (.agg (.cons (.refl _) (.cons (hGr.fzT (fun _ _ => rfl) (hraw _ _)) .nil))) .nil) ?_
        by_cases hck : checkE f = 0
        · rw [if_pos hck] at hz
          rw [hz]
          simp only [go_sem, xQ, ↓reduceIte, xA, xM, xL, xT, xE, xN, xP, xR, xS, H, h8, N, hck, q2, q7, hca, hoa]
          have hgf := hGr.updW (hGr.neS q2 (by decide)) (some (.row [int f.vars, a] 2 1))
          exact ⟨.tup (.cons (.agg (.cons (.refl _) (.cons (hgf.fzT (fun _ h => h) (hraw _ _)) .nil))) (.cons (.refl _) (.cons (.refl _) .nil))), by repeat (first | exact hD | refine Drop.upd ?_ (by assumption))⟩
        · rw [if_neg hck] at hz
          simp only [go_sem, xQ, ↓reduceIte, xA, xM, xL, xT, xE, xN, xP, xR, xS, H, h8, N, hck, q2, q7, hca, hoa]
          rw [hz]
          exact ⟨.tup (.cons (.agg (.cons (.refl _) (.cons .nil .nil))) (.cons (.refl _) (.cons (.refl _) .nil))), by repeat (first | exact hD | refine Drop.upd ?_ (by assumption))⟩
    · rw [parL_bad hre] at hz
      have hne := bts_ne hre
      simp only [go_sem, xQ, ↓reduceIte, xA, xM, xL, xT, xE, xN, xP, xR, xS, H, h8, N, hkk', hkk2, hsg, hne, Int.toNat_natCast, Int.natCast_nonneg, Nat.mul_one, q2, q7]
      rw [hz]
      exact ⟨.tup (.cons (.agg (.cons (.refl _) (.cons .nil .nil))) (.cons (.refl _) (.cons (.refl _) .nil))), by repeat (first | exact hD | refine Drop.upd ?_ (by assumption))⟩
end Go.AL

/- FormulaStrings: the law holds at all formulas and all strings. -/
set_option linter.unusedVariables false
set_option linter.unusedSimpArgs false
namespace Go.AL
open Go.Proofs
variable {Γ : Glob}
attribute [local irreducible] codeW opsW dopsW
theorem parR_fit {s : ByteArray} : (parR s).1.nodes.length ≤ 1000000 ∧ ∀ n ∈ (parR s).1.nodes, NdFit n := by
  have key : ∀ (rows : List (List UInt8)) (i : Nat) (f : Fm), (parL rows i f).1.nodes = [] ∨ checkE (parL rows i f).1 = 0 := by
    intro rows
    induction rows with
    | nil => intro i f; exact .inl rfl
    | cons r rs ih =>
      intro i f
      cases rs with
      | nil =>
        rw [parL]
        split
        · split
          · exact .inr (by assumption)
          · exact .inl rfl
        · exact .inl rfl
      | cons r' rs' =>
        rw [parL]
        split
        · exact .inl rfl
        · split
          · split
            · exact ih _ _
            · exact .inl rfl
          · split
            · exact ih _ _
            · exact .inl rfl
  rw [parR]
  split
  · exact ⟨Nat.zero_le _, fun n hn => by cases hn⟩
  · rcases key (cutL 10 s.data.toList) 0 fm0 with h | h
    · rw [h]; exact ⟨Nat.zero_le _, fun n hn => by cases hn⟩
    · have := fit_of h
      exact ⟨by omega, this.2⟩
theorem beq_bytes (a : ByteArray) : (a.toList == a.toList) = true := beq_self_eq_true _
set_option maxHeartbeats 4000000 in
set_option maxRecDepth 20000 in
theorem f18 (hG : Γ 0 = some sortsT) (hG2 : Γ 2 = some [int 0, int 0]) (hG5 : Γ 5 = some powT) (f : Fm) (s : ByteArray) (hl : f.nodes.length ≤ 9223372036854775807) : PCalls Tryz.prog Γ 18 [fmA f, str s] (.v (.bool true)) := by
  have hf39 := f39 (Γ := Γ) f hl
  refine pcalls (ok18 Γ) fun σ => ?_
  cases hb : shortFB f
  · simp only [go_sem, xQ, ↓reduceIte, xA, xM, xL, xT, xE, xN, xP, xR, xS, Tryz.f18, str]
    refine callB_use (hf39) rfl ?_
    simp only [go_sem, xQ, ↓reduceIte, xA, xM, xL, xT, xE, xN, xP, xR, xS, hb]
    refine callB_use (f40 hG hG2 hG5) rfl ?_
    simp only [go_sem, xQ, ↓reduceIte, xA, xM, xL, xT, xE, xN, xP, xR, xS]
  · obtain ⟨hl2, hc⟩ := short_fitM hb
    by_cases h4 : (400 : Int) < s.size
    · by_cases h16 : (s.size : Int) = 16385
      · simp only [go_sem, xQ, ↓reduceIte, xA, xM, xL, xT, xE, xN, xP, xR, xS, Tryz.f18, str]
        refine callB_use (hf39) rfl ?_
        simp only [go_sem, xQ, ↓reduceIte, xA, xM, xL, xT, xE, xN, xP, xR, xS, hb, h4, h16]
        have h107 := f107 (Γ := Γ) hG s (by omega)
        have h109 := f109 (Γ := Γ) s (by omega)
        obtain ⟨p1, p2⟩ := parR_fit (s := s)
        generalize (parR s) = R at h107 h109 p1 p2
        obtain ⟨X, li, er⟩ := R
        simp only at h107 h109 p1 p2
        refine callB_use (f42 f (by omega) hc) rfl ?_
        simp only [go_sem, xQ, ↓reduceIte, xA, xM, xL, xT, xE, xN, xP, xR, xS, hb, h4, h16]
        refine callB_use (f106 hG hG5 f (by omega) hc) rfl ?_
        simp only [go_sem, xQ, ↓reduceIte, xA, xM, xL, xT, xE, xN, xP, xR, xS, hb, h4, h16]
        refine callB_use (h107) rfl ?_
        simp only [go_sem, xQ, ↓reduceIte, xA, xM, xL, xT, xE, xN, xP, xR, xS, hb, h4, h16]
        intro b7 hb7
        simp only [go_sem, xQ, ↓reduceIte, xA, xM, xL, xT, xE, xN, xP, xR, xS, hb, h4, h16]
        refine callB_use (f44 f (by omega) hc) rfl ?_
        simp only [go_sem, xQ, ↓reduceIte, xA, xM, xL, xT, xE, xN, xP, xR, xS, hb, h4, h16]
        have N : True := trivial
        by_cases h2 : checkE f = 0
        · simp only [go_sem, xQ, ↓reduceIte, xA, xM, xL, xT, xE, xN, xP, xR, xS, h2]
          refine callB_use (f108 f h2) rfl ?_
          simp only [go_sem, xQ, ↓reduceIte, xA, xM, xL, xT, xE, xN, xP, xR, xS, h2]
          refine callB_use (h109) rfl ?_
          simp only [go_sem, xQ, ↓reduceIte, xA, xM, xL, xT, xE, xN, xP, xR, xS, N, h2]
          intro b12 hb12
          obtain ⟨m1, hb12⟩ := un hb12
          have m1' : ¬ b7 = b12 := fun e => m1 e.symm
          simp only [go_sem, xQ, ↓reduceIte, xA, xM, xL, xT, xE, xN, xP, xR, xS, m1, m1', beq_bytes, h2]
          refine dcallB_use (f111 X (by omega)) rfl ?_
          simp only [go_sem, xQ, ↓reduceIte, xA, xM, xL, xT, xE, xN, xP, xR, xS, m1, m1', beq_bytes, h2]
          refine callB_use (f110 X X (by omega) p2) rfl ?_
          simp only [go_sem, xQ, ↓reduceIte, xA, xM, xL, xT, xE, xN, xP, xR, xS, m1, m1', beq_bytes, h2, decide_true]
          refine callB_use (f40 hG hG2 hG5) rfl ?_
          simp only [go_sem, xQ, ↓reduceIte, xA, xM, xL, xT, xE, xN, xP, xR, xS]
          exact retP_drop (by repeat (first | exact Drop.refl _ | assumption | refine Drop.upd ?_ (by assumption))) rfl
        · simp only [go_sem, xQ, ↓reduceIte, xA, xM, xL, xT, xE, xN, xP, xR, xS, h2]
          refine callB_use (h109) rfl ?_
          simp only [go_sem, xQ, ↓reduceIte, xA, xM, xL, xT, xE, xN, xP, xR, xS, N, h2]
          intro b12 hb12
          obtain ⟨m1, hb12⟩ := un hb12
          have m1' : ¬ b7 = b12 := fun e => m1 e.symm
          simp only [go_sem, xQ, ↓reduceIte, xA, xM, xL, xT, xE, xN, xP, xR, xS, m1, m1', beq_bytes, h2]
          refine dcallB_use (f111 X (by omega)) rfl ?_
          simp only [go_sem, xQ, ↓reduceIte, xA, xM, xL, xT, xE, xN, xP, xR, xS, m1, m1', beq_bytes, h2]
          refine callB_use (f110 X X (by omega) p2) rfl ?_
          simp only [go_sem, xQ, ↓reduceIte, xA, xM, xL, xT, xE, xN, xP, xR, xS, m1, m1', beq_bytes, h2, decide_true]
          refine callB_use (f40 hG hG2 hG5) rfl ?_
          simp only [go_sem, xQ, ↓reduceIte, xA, xM, xL, xT, xE, xN, xP, xR, xS]
          exact retP_drop (by repeat (first | exact Drop.refl _ | assumption | refine Drop.upd ?_ (by assumption))) rfl
      · simp only [go_sem, xQ, ↓reduceIte, xA, xM, xL, xT, xE, xN, xP, xR, xS, Tryz.f18, str]
        refine callB_use (hf39) rfl ?_
        simp only [go_sem, xQ, ↓reduceIte, xA, xM, xL, xT, xE, xN, xP, xR, xS, hb, h4, h16]
        refine callB_use (f40 hG hG2 hG5) rfl ?_
        simp only [go_sem, xQ, ↓reduceIte, xA, xM, xL, xT, xE, xN, xP, xR, xS]
    · simp only [go_sem, xQ, ↓reduceIte, xA, xM, xL, xT, xE, xN, xP, xR, xS, Tryz.f18, str]
      refine callB_use (hf39) rfl ?_
      simp only [go_sem, xQ, ↓reduceIte, xA, xM, xL, xT, xE, xN, xP, xR, xS, hb, h4]
      have h107 := f107 (Γ := Γ) hG s (by omega)
      have h109 := f109 (Γ := Γ) s (by omega)
      obtain ⟨p1, p2⟩ := parR_fit (s := s)
      generalize (parR s) = R at h107 h109 p1 p2
      obtain ⟨X, li, er⟩ := R
      simp only at h107 h109 p1 p2
      refine callB_use (f42 f (by omega) hc) rfl ?_
      simp only [go_sem, xQ, ↓reduceIte, xA, xM, xL, xT, xE, xN, xP, xR, xS, hb, h4]
      refine callB_use (f106 hG hG5 f (by omega) hc) rfl ?_
      simp only [go_sem, xQ, ↓reduceIte, xA, xM, xL, xT, xE, xN, xP, xR, xS, hb, h4]
      refine callB_use (h107) rfl ?_
      simp only [go_sem, xQ, ↓reduceIte, xA, xM, xL, xT, xE, xN, xP, xR, xS, hb, h4]
      intro b7 hb7
      simp only [go_sem, xQ, ↓reduceIte, xA, xM, xL, xT, xE, xN, xP, xR, xS, hb, h4]
      refine callB_use (f44 f (by omega) hc) rfl ?_
      simp only [go_sem, xQ, ↓reduceIte, xA, xM, xL, xT, xE, xN, xP, xR, xS, hb, h4]
      have N : True := trivial
      by_cases h2 : checkE f = 0
      · simp only [go_sem, xQ, ↓reduceIte, xA, xM, xL, xT, xE, xN, xP, xR, xS, h2]
        refine callB_use (f108 f h2) rfl ?_
        simp only [go_sem, xQ, ↓reduceIte, xA, xM, xL, xT, xE, xN, xP, xR, xS, h2]
        refine callB_use (h109) rfl ?_
        simp only [go_sem, xQ, ↓reduceIte, xA, xM, xL, xT, xE, xN, xP, xR, xS, N, h2]
        intro b12 hb12
        obtain ⟨m1, hb12⟩ := un hb12
        have m1' : ¬ b7 = b12 := fun e => m1 e.symm
        simp only [go_sem, xQ, ↓reduceIte, xA, xM, xL, xT, xE, xN, xP, xR, xS, m1, m1', beq_bytes, h2]
        refine dcallB_use (f111 X (by omega)) rfl ?_
        simp only [go_sem, xQ, ↓reduceIte, xA, xM, xL, xT, xE, xN, xP, xR, xS, m1, m1', beq_bytes, h2]
        refine callB_use (f110 X X (by omega) p2) rfl ?_
        simp only [go_sem, xQ, ↓reduceIte, xA, xM, xL, xT, xE, xN, xP, xR, xS, m1, m1', beq_bytes, h2, decide_true]
        refine callB_use (f40 hG hG2 hG5) rfl ?_
        simp only [go_sem, xQ, ↓reduceIte, xA, xM, xL, xT, xE, xN, xP, xR, xS]
        exact retP_drop (by repeat (first | exact Drop.refl _ | assumption | refine Drop.upd ?_ (by assumption))) rfl
      · simp only [go_sem, xQ, ↓reduceIte, xA, xM, xL, xT, xE, xN, xP, xR, xS, h2]
        refine callB_use (h109) rfl ?_
        simp only [go_sem, xQ, ↓reduceIte, xA, xM, xL, xT, xE, xN, xP, xR, xS, N, h2]
        intro b12 hb12
        obtain ⟨m1, hb12⟩ := un hb12
        have m1' : ¬ b7 = b12 := fun e => m1 e.symm
        simp only [go_sem, xQ, ↓reduceIte, xA, xM, xL, xT, xE, xN, xP, xR, xS, m1, m1', beq_bytes, h2]
        refine dcallB_use (f111 X (by omega)) rfl ?_
        simp only [go_sem, xQ, ↓reduceIte, xA, xM, xL, xT, xE, xN, xP, xR, xS, m1, m1', beq_bytes, h2]
        refine callB_use (f110 X X (by omega) p2) rfl ?_
        simp only [go_sem, xQ, ↓reduceIte, xA, xM, xL, xT, xE, xN, xP, xR, xS, m1, m1', beq_bytes, h2, decide_true]
        refine callB_use (f40 hG hG2 hG5) rfl ?_
        simp only [go_sem, xQ, ↓reduceIte, xA, xM, xL, xT, xE, xN, xP, xR, xS]
        exact retP_drop (by repeat (first | exact Drop.refl _ | assumption | refine Drop.upd ?_ (by assumption))) rfl
end Go.AL
