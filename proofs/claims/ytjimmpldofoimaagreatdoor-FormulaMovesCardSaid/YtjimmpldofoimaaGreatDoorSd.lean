/- Formulas are parsed as they were printed, plainly. -/
import Derived.Test.YtjimmpldofoimaaGreatDoorSb
import Derived.Test.YtjimmpldofoimaaGreatDoorSc
import Derived.Test.YtjimmpldofoimaaGreatDoorXb
import Derived.Test.YtjimmpldofoimaaGreatDoorXf
import Derived.Test.YtjimmpldofoimaaGreatDoorXm
import Derived.Test.YtjimmpldofoimaaGreatDoorXq
set_option linter.unusedVariables false
set_option linter.unusedSimpArgs false
namespace Go.AL
open Go.Proofs
def numsB (l : List Int) : List UInt8 := l.flatMap fun n => 32 :: Lib.itoa n
theorem joinTail_nums : ∀ l : List Int, Lib.joinTail [32] ((l.map itoaP).map (·.data.toList)) = numsB l
  | [] => rfl
  | n :: l => by
    have ih := joinTail_nums l
    simp only [Lib.joinTail, numsB, List.map_cons, List.flatten_cons, List.flatMap_cons] at ih ⊢
    rw [ih]
    rfl
theorem lineF_data (w : ByteArray) (l : List Int) : (lineF w l).data.toList = w.data.toList ++ numsB l ++ [10] := by
  have e : (lineF w l).data.toList = Lib.join ((w :: l.map itoaP).map (·.data.toList)) bSp.data.toList ++ [10] := by
    simp [lineF, joinP, bNl]
  rw [e, List.map_cons, Lib.join_cons]
  have : bSp.data.toList = [32] := rfl
  rw [this, joinTail_nums]
theorem cut_words : ∀ (l : List Int) (w : List UInt8), (32 : UInt8) ∉ w → cutL 32 (w ++ numsB l) = w :: l.map Lib.itoa
  | [], w, h => by rw [numsB, List.flatMap_nil, List.append_nil, cutL_none h]; rfl
  | n :: l, w, h => by
    have e : w ++ numsB (n :: l) = w ++ 32 :: (Lib.itoa n ++ numsB l) := by
      rw [numsB, List.flatMap_cons]; rfl
    rw [e, cutL_hit h, cut_words l _ (itoa_free n 32 (by decide))]
    rfl
theorem nums_free (c : UInt8) (hc : c.toNat < 45) (h32 : c ≠ 32) : ∀ l : List Int, c ∉ numsB l
  | [] => by simp [numsB]
  | n :: l => by
    have ih := nums_free c hc h32 l
    simp only [numsB, List.flatMap_cons, List.mem_append, List.mem_cons, not_or] at ih ⊢
    exact ⟨⟨h32, itoa_free n c hc⟩, ih⟩
theorem cut_lines : ∀ bs : List (List UInt8), (∀ b ∈ bs, (10 : UInt8) ∉ b) → cutL 10 (bs.flatMap fun b => b ++ [10]) = bs ++ [[]]
  | [], _ => rfl
  | b :: bs, h => by
    have e : ((b :: bs).flatMap fun b => b ++ [10]) = b ++ 10 :: (bs.flatMap fun b => b ++ [10]) := by
      rw [List.flatMap_cons]; simp
    rw [e, cutL_hit (h b (by simp)), cut_lines bs fun x hx => h x (by simp [hx])]
    rfl
def bodyN (n : Nd) : List UInt8 := (wordN n.kind).data.toList ++ numsB (numsN n)
theorem word_free (k : Int) (c : UInt8) (h : c.toNat < 90) : c ∉ (wordN k).data.toList := by
  have key : ∀ w : ByteArray, (∀ b ∈ w.data.toList, 97 ≤ b.toNat) → c ∉ w.data.toList := fun w hw hc => by
    have := hw c hc
    omega
  unfold wordN
  repeat' split
  all_goals exact key _ (by decide)
theorem kind_word {k : Int} (h0 : 0 ≤ k) (h4 : k ≤ 4) : kindO (wordN k).data.toList = some k := by
  have hk : k = 0 ∨ k = 1 ∨ k = 2 ∨ k = 3 ∨ k = 4 := by omega
  rw [kindO, bts_of]
  rcases hk with rfl | rfl | rfl | rfl | rfl
  · rfl
  · decide
  · decide
  · decide
  · decide
theorem node_back {n : Nd} {i : Nat} {vars : Int} (h : NodeOk n i vars) (hi : i ≤ 1000) : nodeO (wordN n.kind).data.toList ((numsN n).map Lib.itoa) = some n := by
  have hkl : ∀ l : List Int, (∀ x ∈ l, x.natAbs < 10 ^ (12 + 1)) → intsO 13 (l.map Lib.itoa) = some l := fun l hl => intsO_itoa 12 l hl
  have e13 : (10 : Nat) ^ (12 + 1) = 10000000000000 := by decide
  rw [nodeO, kind_word h.lo h.hi]
  by_cases hk : n.kind ≤ 1
  · obtain ⟨t1, t2, t3⟩ := h.term hk
    have tn := (firstE_zero _).1 t1 (numbersE n.term) (by simp)
    obtain ⟨c1, c2⟩ := numbers_ok tn
    have e : numsN n = n.term.coeffs ++ [n.term.const] := by rw [numsN, if_pos hk]
    rw [e, hkl _ (fun x hx => by
      rw [e13]
      rcases List.mem_append.1 hx with hx | hx
      · have := c1 x hx; omega
      · rw [List.mem_singleton] at hx; subst hx; omega)]
    simp only [hk, if_true]
    rw [if_neg (by simp)]
    congr 1
    obtain ⟨kd, ⟨cs, c⟩, kids⟩ := n
    simp only at t3 ⊢
    subst t3
    simp
  · obtain ⟨f1, f2, f3, f4⟩ := h.form (by omega)
    have e : numsN n = n.kids := by rw [numsN, if_neg hk]
    rw [e, hkl _ (fun x hx => by rw [e13]; have := f4 x hx; omega)]
    simp only [hk, if_false]
    obtain ⟨kd, t, kids⟩ := n
    simp only at f1 ⊢
    rw [f1]
theorem parL_back : ∀ (l : List Nd) (i : Nat) (f : Fm), i ≠ 0 → (∀ k n, l[k]? = some n → NodeOk n (i - 1 + k) f.vars) → i + l.length ≤ 1000 → checkE ⟨f.vars, f.nodes ++ l⟩ = 0 → parL (l.map bodyN ++ [[]]) i f = (⟨f.vars, f.nodes ++ l⟩, 0, 0)
  | [], i, f, h, _, _, hc => by
    rw [List.append_nil] at hc ⊢
    rw [List.map_nil, List.nil_append, parL_last h, if_pos hc]
  | n :: l, i, f, h, hok, hl, hc => by
    have hN := hok 0 n rfl
    simp only [List.length_cons] at hl
    have hcut : cutL 32 (bodyN n) = (wordN n.kind).data.toList :: (numsN n).map Lib.itoa := cut_words _ _ (word_free _ _ (by decide))
    rw [List.map_cons, List.cons_append, parL_node (by simp) h hcut, node_back hN (by omega)]
    simp only
    rw [parL_back l (i + 1) ⟨f.vars, f.nodes ++ [n]⟩ (by omega) (fun k z hz => by
      have := hok (k + 1) z (by simpa using hz)
      rw [show i + 1 - 1 + k = i - 1 + (k + 1) by omega]
      exact this) (by omega) (by simpa using hc)]
    simp
theorem print_back {f : Fm} (h : checkE f = 0) (hs : (printF f).size ≤ 16384) : parR (printF f) = (f, 0, 0) := by
  obtain ⟨hne, hl200, hv0, hv8, hok⟩ := check_ok h
  have hb : (printF f).data.toList = (((bVarsL ++ numsB [f.vars]) :: f.nodes.map bodyN).flatMap fun b => b ++ [10]) := by
    show printL f = _
    rw [printL, lineF_data, List.flatMap_cons, List.flatMap_map]
    congr 1
    have : lineN = fun n => bodyN n ++ [10] := funext fun n => by rw [lineN, lineF_data, bodyN]
    rw [this]
  have hcut : cutL 32 (bVarsL ++ numsB [f.vars]) = bVarsL :: [f.vars].map Lib.itoa := cut_words _ _ (by decide)
  rw [parR, if_neg (by omega), hb, cut_lines, List.cons_append, parL_head (by simp) hcut]
  · have hh : headO bVarsL ([f.vars].map Lib.itoa) = some f.vars := by
      rw [headO, if_pos rfl, intsO_itoa 12 [f.vars] (fun n hn => by
        rw [List.mem_singleton] at hn
        subst hn
        have : (10 : Nat) ^ (12 + 1) = 10000000000000 := by decide
        omega)]
    rw [hh]
    exact parL_back f.nodes 1 ⟨f.vars, []⟩ (by omega) (fun k n hk => by simpa using hok k n hk) (by omega) (by simpa using h)
  · intro b hb
    rcases List.mem_cons.1 hb with rfl | hb
    · simp only [List.mem_append, not_or]
      exact ⟨by decide, nums_free 10 (by decide) (by decide) _⟩
    · obtain ⟨n, hn, rfl⟩ := List.mem_map.1 hb
      simp only [bodyN, List.mem_append, not_or]
      exact ⟨word_free _ _ (by decide), nums_free 10 (by decide) (by decide) _⟩
end Go.AL

/- Numbers and formulas printed by the reference. -/
set_option linter.unusedVariables false
set_option linter.unusedSimpArgs false
namespace Go.AL
open Go.Proofs
variable {Γ : Glob}
attribute [local irreducible] codeW opsW dopsW
/-! ### Formulas printed -/
theorem nums_len : ∀ {l : List Int}, (∀ x ∈ l, I64 x) → (numsB l).length ≤ 22 * l.length
  | [], _ => by simp [numsB]
  | x :: l, h => by
    have ih := nums_len (l := l) fun y hy => h y (List.mem_cons_of_mem _ hy)
    have h1 := itoa_len (h x (by simp))
    have h2 : (itoaP x).data.toList = Lib.itoa x := rfl
    rw [h2] at h1
    simp only [numsB, List.flatMap_cons, List.length_append, List.length_cons] at ih ⊢
    omega
def lineB (n : Nd) : List UInt8 := bodyN n ++ [10]
theorem line_eq : lineN = lineB := funext fun n => by rw [lineN, lineF_data, lineB, bodyN]
theorem word_len (k : Int) : (wordN k).data.toList.length ≤ 3 := by
  unfold wordN
  repeat' split
  all_goals decide
end Go.AL

/- Parse of formulas, of the reference. -/
set_option linter.unusedVariables false
set_option linter.unusedSimpArgs false
namespace Go.AL
open Go.Proofs
variable {Γ : Glob}
attribute [local irreducible] codeW opsW dopsW
/-- The cells of nodes, told before they are handed on. -/
def RawOk (cs : List AV) (l : List Nd) : Prop := ∀ σ1 σ2 : Sig, FzL σ1 σ2 cs (l.flatMap ndC)
theorem RawOk.nil : RawOk [] [] := fun _ _ => .nil
theorem RawOk.app {cs xs : List AV} {l : List Nd} {n : Nd} (h : RawOk cs l) (hx : ∀ σ1 σ2 : Sig, FzL σ1 σ2 xs (ndC n)) : RawOk (cs ++ xs) (l ++ [n]) := fun σ1 σ2 => by
  rw [List.flatMap_append, List.flatMap_singleton]
  exact (h σ1 σ2).app (hx σ1 σ2)
end Go.AL

/- FormulaStrings: the law holds at all formulas and all strings. -/
set_option linter.unusedVariables false
set_option linter.unusedSimpArgs false
namespace Go.AL
open Go.Proofs
variable {Γ : Glob}
attribute [local irreducible] codeW opsW dopsW
end Go.AL
