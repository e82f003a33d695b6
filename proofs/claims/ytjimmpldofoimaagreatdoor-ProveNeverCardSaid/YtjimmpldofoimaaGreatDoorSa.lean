import Derived.Test.YtjimmpldofoimaaGreatDoorAlSeq
import Derived.Test.YtjimmpldofoimaaGreatDoorAm
import Derived.Test.YtjimmpldofoimaaGreatDoorVa
import Derived.Lib.SplitLaws
import Derived.Shelf.Small.Strs
import Derived.Shelf.Small.Wraps
import Derived.Shelf.Strings.Split
import Derived.Test.YtjimmpldofoimaaGreatDoorProg
import Derived.Laws.StructEq
import Derived.Lib.Strings
set_option linter.unusedVariables false
set_option linter.unusedSimpArgs false
namespace Go.AL
open Go.Proofs
def cutL (c : UInt8) : List UInt8 → List (List UInt8)
 | [] => [[]]
 | x :: l => if x = c then [] :: cutL c l else match cutL c l with
  | [] => [[x]]
  | r :: rs => (x :: r) :: rs
theorem cutL_ne (c : UInt8) : ∀ l, cutL c l ≠ []
 | [] => by simp [cutL]
 | x :: l => by
  rw [cutL]
  split
  ·simp
  ·split <;> simp
theorem cutL_none {c : UInt8} : ∀ {a : List UInt8}, c ∉ a → cutL c a = [a]
 | [], _ => rfl
 | x :: a, h => by
  simp only [List.mem_cons, not_or] at h
  rw [cutL, if_neg (fun e => h.1 e.symm), cutL_none h.2]
theorem cutL_hit {c : UInt8} {b : List UInt8} : ∀ {a : List UInt8}, c ∉ a → cutL c (a ++ c :: b) = a :: cutL c b
 | [], _ => by rw [List.nil_append, cutL, if_pos rfl]
 | x :: a, h => by
  simp only [List.mem_cons, not_or] at h
  rw [List.cons_append, cutL, if_neg (fun e => h.1 e.symm), cutL_hit h.2]
theorem cutL_len (c : UInt8) : ∀ l, (cutL c l).length ≤ l.length + 1
 | [] => by simp [cutL]
 | x :: l => by
  have ih := cutL_len c l
  rw [cutL]
  split
  ·simpa using ih
  ·split
   ·simp
   ·rename_i h
    rw [h] at ih
    simp only [List.length_cons] at ih ⊢
    omega
theorem cutL_mem (c : UInt8) : ∀ l, ∀ r ∈ cutL c l, c ∉ r ∧ r.length ≤ l.length
 | [], r, h => by simp [cutL] at h; subst h; simp
 | x :: l, r, h => by
  have ih := cutL_mem c l
  rw [cutL] at h
  split at h
  ·rcases List.mem_cons.1 h with rfl | h
   ·simp
   ·obtain ⟨h1, h2⟩ := ih r h
    exact ⟨h1, by simp only [List.length_cons]; omega⟩
  ·rename_i hx
   cases hc : cutL c l with
   | nil => exact absurd hc (cutL_ne c l)
   | cons r0 rs =>
    rw [hc] at h ih
    rcases List.mem_cons.1 h with rfl | h
    ·obtain ⟨h1, h2⟩ := ih r0 (by simp)
     refine ⟨?_, by simp only [List.length_cons]; omega⟩
     simp only [List.mem_cons, not_or]
     exact ⟨fun e => hx e.symm, h1⟩
    ·obtain ⟨h1, h2⟩ := ih r (by simp [h])
     exact ⟨h1, by simp only [List.length_cons]; omega⟩
theorem cutL_cons (c : UInt8) (l : List UInt8) : ∃ r rs, cutL c l = r :: rs := by
 cases h : cutL c l with
 | nil => exact absurd h (cutL_ne c l)
 | cons r rs => exact ⟨r, rs, rfl⟩
def bts (l : List UInt8) : ByteArray := ⟨l.toArray⟩
theorem bts_data (l : List UInt8) : (bts l).data.toList = l := rfl
theorem bts_of (s : ByteArray) : bts s.data.toList = s := Lib.mk_data s
theorem bts_size (l : List UInt8) : (bts l).size = l.length := by
 rw [Lib.size_eq]
 rfl
def rowsB (c : UInt8) (s : ByteArray) : List ByteArray := (cutL c s.data.toList).map bts
theorem index_one (c : UInt8) : ∀ l : List UInt8, (Lib.index l [c] = -1 ∧ c ∉ l) ∨ ∃ i : Nat, Lib.index l [c] = i ∧ ∃ a b, l = a ++ c :: b ∧ a.length = i ∧ c ∉ a
 | [] => .inl ⟨rfl, by simp⟩
 | x :: l => by
  rw [Lib.index]
  by_cases hx : x = c
  ·subst hx
   exact .inr ⟨0, by simp, [], l, rfl, rfl, by simp⟩
  ·have hp : ([c] : List UInt8).isPrefixOf (x :: l) = false := by
    simp only [List.isPrefixOf, Bool.and_true]
    exact beq_eq_false_iff_ne.2 (fun e => hx e.symm)
   rw [hp, if_neg (by decide)]
   rcases index_one c l with ⟨h1, h2⟩ | ⟨i, h1, a, b, h2, h3, h4⟩
   ·left
    rw [h1]
    exact ⟨rfl, by simp only [List.mem_cons, not_or]; exact ⟨fun e => hx e.symm, h2⟩⟩
   ·right
    refine ⟨i + 1, ?_, x :: a, b, by rw [h2]; rfl, by simp [h3], by simp only [List.mem_cons, not_or]; exact ⟨fun e => hx e.symm, h4⟩⟩
    rw [h1, if_neg (by simp)]
    simp
theorem ext_data (s : ByteArray) (a b : Nat) : (s.extract a b) = bts ((s.data.toList.drop a).take (b - a)) := Lib.extract_eq s a b
theorem split_rows (c : UInt8) : ∀ (k : Nat) (s : ByteArray), Lib.countB s ⟨#[c]⟩ = k → Lib.splitB ⟨#[c]⟩ 0 k s = rowsB c s
 | k, s, hk => by
  rcases index_one c s.data.toList with ⟨h1, h2⟩ | ⟨i, h1, a, b, h2, h3, h4⟩
  ·rw [Lib.splitB_miss ⟨#[c]⟩ 0 k s h1, rowsB, cutL_none h2, List.map_cons, bts_of, List.map_nil]
  ·have hc := Lib.countB_hit s ⟨#[c]⟩ i (Nat.le_refl _) h1
   rw [hk] at hc
   cases k with
   | zero => omega
   | succ k =>
    have hs : s.size = a.length + 1 + b.length := by rw [Lib.size_eq, h2]; simp; omega
    have e1 : s.extract 0 (i + 0) = bts a := by
     rw [ext_data, h2, ← h3]; simp
    have e2 : s.extract (i + (⟨#[c]⟩ : ByteArray).size) s.size = bts b := by
     rw [ext_data, hs, h2, ← h3]
     show bts (((a ++ c :: b).drop (a.length + 1)).take _) = _
     rw [List.drop_append, List.drop_eq_nil_of_le (by omega), List.nil_append, show a.length + 1 - a.length = 1 by omega]
     rw [List.drop_succ_cons, List.drop_zero, List.take_of_length_le (by show b.length ≤ _ - (a.length + 1); omega)]
    rw [Lib.splitB_hit ⟨#[c]⟩ 0 k s i h1, e1, e2, split_rows c k (bts b) (by rw [← e2]; omega), rowsB, rowsB, h2, cutL_hit h4]
    rfl
theorem rows_count (c : UInt8) (s : ByteArray) : (rowsB c s).length = Lib.countB s ⟨#[c]⟩ + 1 := by
 rw [← split_rows c _ s rfl]
 exact Lib.splitB_all ⟨#[c]⟩ (Nat.le_refl _) 0 _ s rfl
def linesR : List (List UInt8) → List (List UInt8)
 | [] => []
 | r :: rs => match rs with
  | [] => if r = [] then [] else [r]
  | r' :: rs' => (r ++ [10]) :: linesR (r' :: rs')
def linesL (l : List UInt8) : List (List UInt8) := linesR (cutL 10 l)
theorem linesR_two (r r' : List UInt8) (rs : List (List UInt8)) : linesR (r :: r' :: rs) = (r ++ [10]) :: linesR (r' :: rs) := rfl
theorem lines_none {l : List UInt8} (h : l ≠ []) (h' : (10 : UInt8) ∉ l) : linesL l = [l] := by
 rw [linesL, cutL_none h']
 show (if l = [] then [] else [l]) = [l]
 rw [if_neg h]
theorem lines_hit {a b : List UInt8} (h : (10 : UInt8) ∉ a) : linesL (a ++ 10 :: b) = (a ++ [10]) :: linesL b := by
 rw [linesL, cutL_hit h, linesL]
 obtain ⟨r, rs, hr⟩ := cutL_cons 10 b
 rw [hr]
 rfl
def isDig (b : UInt8) : Bool := decide (48 ≤ b.toNat ∧ b.toNat ≤ 57)
def decF (n : Int) (b : UInt8) : Int := 10 * n + ((b.toNat : Int) - 48)
def decL (l : List UInt8) : Int := l.foldl decF 0
theorem decL_snoc (l : List UInt8) (b : UInt8) : decL (l ++ [b]) = 10 * decL l + ((b.toNat : Int) - 48) := by
 rw [decL, List.foldl_append]
 rfl
theorem list_snoc {α : Type} {p : List α → Prop} (h0 : p []) (h1 : ∀ l x, p l → p (l ++ [x])) (l : List α) : p l := by
 have : ∀ l : List α, p l.reverse := fun l => by
  induction l with
  | nil => exact h0
  | cons x l ih => rw [List.reverse_cons]; exact h1 _ _ ih
 simpa using this l.reverse
theorem decL_bound (l : List UInt8) : (∀ b ∈ l, isDig b = true) → 0 ≤ decL l ∧ decL l < 10 ^ l.length := by
 induction l using list_snoc with
 | h0 => intro _; exact ⟨Int.le_refl _, by decide⟩
 | h1 l x ih =>
  intro h
  obtain ⟨i1, i2⟩ := ih fun b hb => h b (by simp [hb])
  have hx := h x (by simp)
  simp only [isDig, decide_eq_true_eq] at hx
  rw [decL_snoc, List.length_append, List.length_singleton, Int.pow_succ]
  exact ⟨by omega, by omega⟩
def minusB (l : List UInt8) : Bool := match l with
 | [] => false
 | x :: _ => x == 45
def bodyL (l : List UInt8) : List UInt8 := if minusB l then l.tail else l
def intBad (m : Nat) (l : List UInt8) : Prop := bodyL l = [] ∨ m < (bodyL l).length ∨ ¬ (∀ b ∈ bodyL l, isDig b = true) ∨ ((bodyL l).head? = some 48 ∧ (1 < (bodyL l).length ∨ minusB l = true))
open Classical in
noncomputable def intO (m : Nat) (l : List UInt8) : Option Int := if intBad m l then none else some (if minusB l then - decL (bodyL l) else decL (bodyL l))
theorem intO_none {m : Nat} {l : List UInt8} (h : intBad m l) : intO m l = none := if_pos h
theorem intO_some {m : Nat} {l : List UInt8} (h : ¬ intBad m l) : intO m l = some (if minusB l then - decL (bodyL l) else decL (bodyL l)) := if_neg h
noncomputable def intsO (m : Nat) : List (List UInt8) → Option (List Int)
 | [] => some []
 | w :: ws => match intO m w with
  | none => none
  | some n => match intsO m ws with
   | none => none
   | some l => some (n :: l)
theorem intsO_snoc (m : Nat) (w : List UInt8) : ∀ ws : List (List UInt8), intsO m (ws ++ [w]) = match intsO m ws with
  | none => none
  | some l => match intO m w with
   | none => none
   | some n => some (l ++ [n])
 | [] => by
  simp only [List.nil_append, intsO]
 | x :: ws => by
  rw [List.cons_append, intsO, intsO, intsO_snoc m w ws]
  cases intO m x <;> simp only
  cases intsO m ws <;> simp only
  cases intO m w <;> rfl
theorem intsO_len (m : Nat) : ∀ (ws : List (List UInt8)) (l : List Int), intsO m ws = some l → l.length = ws.length
 | [], l, h => by cases h; rfl
 | x :: ws, l, h => by
  rw [intsO] at h
  cases h1 : intO m x with
  | none => rw [h1] at h; cases h
  | some n =>
   rw [h1] at h
   cases h2 : intsO m ws with
   | none => rw [h2] at h; cases h
   | some l' =>
    rw [h2] at h
    cases h
    simp [intsO_len m ws l' h2]
theorem intsO_none (m : Nat) (w : List UInt8) : ∀ (a b : List (List UInt8)), intO m w = none → intsO m (a ++ w :: b) = none
 | [], b, h => by rw [List.nil_append, intsO, h]
 | x :: a, b, h => by
  rw [List.cons_append, intsO, intsO_none m w a b h]
  cases intO m x <;> rfl
theorem decDigits_pos (u : Nat) : Lib.decDigits u ≠ [] := by
 rw [Lib.decDigits]
 split <;> simp
theorem dig_of (d : Nat) (h : d < 10) : (UInt8.ofNat (48 + d)).toNat = 48 + d := by
 rw [UInt8.toNat_ofNat']
 exact Nat.mod_eq_of_lt (by omega)
theorem decDigits_dig (u : Nat) : ∀ b ∈ Lib.decDigits u, isDig b = true := by
 induction u using Nat.strongRecOn with
 | _ u ih =>
  intro b hb
  rw [Lib.decDigits] at hb
  split at hb
  ·rename_i h
   rw [List.mem_singleton] at hb
   subst hb
   simp only [isDig, dig_of u h, decide_eq_true_eq]
   omega
  ·rename_i h
   rcases List.mem_append.1 hb with hb | hb
   ·exact ih (u / 10) (by omega) b hb
   ·rw [List.mem_singleton] at hb
    subst hb
    have hm : u % 10 < 10 := Nat.mod_lt _ (by decide)
    simp only [isDig, dig_of _ hm, decide_eq_true_eq]
    omega
theorem decL_digits (u : Nat) : decL (Lib.decDigits u) = u := by
 induction u using Nat.strongRecOn with
 | _ u ih =>
  rw [Lib.decDigits]
  split
  ·rename_i h
   show decF 0 _ = _
   rw [decF, dig_of u h]
   omega
  ·rename_i h
   rw [decL_snoc, ih (u / 10) (by omega), dig_of _ (Nat.mod_lt _ (by decide))]
   omega
theorem decDigits_head (u : Nat) (h : 1 ≤ u) : (Lib.decDigits u).head? ≠ some 48 := by
 induction u using Nat.strongRecOn with
 | _ u ih =>
  rw [Lib.decDigits]
  split
  ·rename_i h'
   intro e
   have e : UInt8.ofNat (48 + u) = 48 := Option.some.inj e
   have := congrArg UInt8.toNat e
   rw [dig_of u h'] at this
   have h48 : (48 : UInt8).toNat = 48 := rfl
   omega
  ·rename_i h'
   have ih := ih (u / 10) (by omega) (by omega)
   obtain ⟨x, l, hx⟩ := List.exists_cons_of_ne_nil (decDigits_pos (u / 10))
   rw [hx] at ih ⊢
   exact ih
theorem decDigits_len (u k : Nat) (h : u < 10 ^ (k + 1)) : (Lib.decDigits u).length ≤ k + 1 := by
 rw [Lib.decDigits_length]
 induction k generalizing u with
 | zero => rw [Lib.nDigits_small (by simpa using h)]; exact Nat.le_refl _
 | succ k ih =>
  by_cases hu : u < 10
  ·rw [Lib.nDigits_small hu]; omega
  ·rw [Lib.nDigits_big hu]
   have := ih (u / 10) (by rw [Nat.pow_succ] at h; omega)
   omega
theorem dig_ne {b : UInt8} (h : isDig b = true) (c : UInt8) (hc : c.toNat < 48 ∨ 57 < c.toNat) : b ≠ c := fun e => by
 subst e
 simp only [isDig, decide_eq_true_eq] at h
 omega
theorem minus_digits (u : Nat) : minusB (Lib.decDigits u) = false := by
 obtain ⟨x, l, hx⟩ := List.exists_cons_of_ne_nil (decDigits_pos u)
 have := decDigits_dig u x (by rw [hx]; simp)
 rw [hx]
 exact beq_eq_false_iff_ne.2 (dig_ne this 45 (.inl (by decide)))
theorem intO_itoa (k : Nat) (n : Int) (h : n.natAbs < 10 ^ (k + 1)) : intO (k + 1) (Lib.itoa n) = some n := by
 have hl := decDigits_len n.natAbs k h
 by_cases hn : n < 0
 ·have e : Lib.itoa n = 45 :: Lib.decDigits n.natAbs := by rw [Lib.itoa, if_pos hn]
  have em : minusB (Lib.itoa n) = true := by rw [e]; rfl
  have eb : bodyL (Lib.itoa n) = Lib.decDigits n.natAbs := by rw [bodyL, em, if_pos rfl, e]; rfl
  have hb : ¬ intBad (k + 1) (Lib.itoa n) := by
   rw [intBad, eb]
   rintro (h1 | h1 | h1 | ⟨h1, _⟩)
   ·exact decDigits_pos _ h1
   ·omega
   ·exact h1 (decDigits_dig _)
   ·exact decDigits_head n.natAbs (by omega) h1
  rw [intO_some hb, em, eb, if_pos rfl, decL_digits]
  congr 1
  omega
 ·have e : Lib.itoa n = Lib.decDigits n.natAbs := by
   rw [Lib.itoa, if_neg hn]
   congr 1
   omega
  have em : minusB (Lib.itoa n) = false := by rw [e]; exact minus_digits _
  have eb : bodyL (Lib.itoa n) = Lib.decDigits n.natAbs := by rw [bodyL, em, if_neg (by decide), e]
  have hb : ¬ intBad (k + 1) (Lib.itoa n) := by
   rw [intBad, eb, em]
   rintro (h1 | h1 | h1 | ⟨h1, h2⟩)
   ·exact decDigits_pos _ h1
   ·omega
   ·exact h1 (decDigits_dig _)
   ·rcases h2 with h2 | h2
    ·by_cases h0 : n.natAbs = 0
     ·rw [h0, Lib.decDigits] at h2
      simp at h2
     ·exact decDigits_head n.natAbs (by omega) h1
    ·cases h2
  rw [intO_some hb, em, eb, if_neg (by decide), decL_digits]
  congr 1
  omega
theorem itoa_free (n : Int) (c : UInt8) (hc : c.toNat < 45) : c ∉ Lib.itoa n := by
 have key : ∀ u, c ∉ Lib.decDigits u := fun u h => by
  have := decDigits_dig u c h
  simp only [isDig, decide_eq_true_eq] at this
  omega
 rw [Lib.itoa]
 split
 ·simp only [List.mem_cons, not_or]
  refine ⟨fun e => ?_, key _⟩
  subst e
  exact absurd hc (by decide)
 ·exact key _
theorem intsO_itoa (k : Nat) : ∀ l : List Int, (∀ n ∈ l, n.natAbs < 10 ^ (k + 1)) → intsO (k + 1) (l.map Lib.itoa) = some l
 | [], _ => rfl
 | n :: l, h => by
  rw [List.map_cons, intsO, intO_itoa k n (h n (by simp)), intsO_itoa k l fun m hm => h m (by simp [hm])]
end Go.AL

namespace Go.Proofs
open Go.Shelf
def Tryz.lays137_ren : Go.Shelf.Ren := ⟨fun | 137 => 240 | 217 => 263 | 266 => 277 | n => n, fun | 9 => 9 | 5 => 5 | 3 => 3 | n => n, fun | n => n⟩
theorem Tryz.lays137 : Go.Proofs.Lays.n137 Tryz.prog Tryz.lays137_ren := {
 mixed := by kernel_rfl
 f137 := Tryz.func240.trans (congrArg some (by kernel_rfl))
 f217 := Tryz.func263.trans (congrArg some (by kernel_rfl))
 f266 := Tryz.func277.trans (congrArg some (by kernel_rfl))
 t3 := Tryz.underlying3
 a3 := Tryz.isAgg3
 z3 := Tryz.sizeOf3
 v3 := Tryz.zeroValue3
 t5 := Tryz.underlying5
 a5 := Tryz.isAgg5
 z5 := Tryz.sizeOf5
 v5 := Tryz.zeroValue5
 t9 := Tryz.underlying9
 a9 := Tryz.isAgg9
 z9 := Tryz.sizeOf9
 v9 := Tryz.zeroValue9 }
theorem Tryz.strings_IndexByte (s : ByteArray) (c : Int) (w : World) :
  Calls Tryz.prog 240 #[.string s, .int .u8 c] w fun e w' => e = .returned (.int .i64 (Lib.indexByte s.data.toList c.toNat.toUInt8)) ∧ w' = w := Any.strings_IndexByte Tryz.lays137 s c w
def Tryz.lays103_ren : Go.Shelf.Ren := ⟨fun | 103 => 270 | 210 => 282 | 206 => 291 | n => n, fun | 9 => 9 | 4 => 4 | 24 => 292 | 3 => 3 | n => n, fun | n => n⟩
theorem Tryz.lays103 : Go.Proofs.Lays.n103 Tryz.prog Tryz.lays103_ren := {
 mixed := by kernel_rfl
 f103 := Tryz.func270.trans (congrArg some (by kernel_rfl))
 f206 := Tryz.func291.trans (congrArg some (by kernel_rfl))
 f210 := Tryz.func282.trans (congrArg some (by kernel_rfl))
 t3 := Tryz.underlying3
 a3 := Tryz.isAgg3
 z3 := Tryz.sizeOf3
 v3 := Tryz.zeroValue3
 t4 := Tryz.underlying4
 a4 := Tryz.isAgg4
 z4 := Tryz.sizeOf4
 v4 := Tryz.zeroValue4
 t9 := Tryz.underlying9
 a9 := Tryz.isAgg9
 z9 := Tryz.sizeOf9
 v9 := Tryz.zeroValue9
 t24 := Tryz.underlying292
 a24 := Tryz.isAgg292
 z24 := Tryz.sizeOf292
 v24 := Tryz.zeroValue292 }
theorem Tryz.strings_CutPrefix (s p : ByteArray) (w : World) :
  Calls Tryz.prog 270 #[.string s, .string p] w fun e w' => e = .returned (.tuple #[.string ⟨(Lib.trimPrefix s.data.toList p.data.toList).toArray⟩, .bool (Lib.hasPrefix s.data.toList p.data.toList)]) ∧ w' = w := Any.strings_CutPrefix Tryz.lays103 s p w
def Tryz.lays104_ren : Go.Shelf.Ren := ⟨fun | 104 => 195 | 211 => 245 | 207 => 266 | n => n, fun | 9 => 9 | 4 => 4 | 24 => 292 | 3 => 3 | n => n, fun | n => n⟩
theorem Tryz.lays104 : Go.Proofs.Lays.n104 Tryz.prog Tryz.lays104_ren := {
 mixed := by kernel_rfl
 f104 := Tryz.func195.trans (congrArg some (by kernel_rfl))
 f207 := Tryz.func266.trans (congrArg some (by kernel_rfl))
 f211 := Tryz.func245.trans (congrArg some (by kernel_rfl))
 t3 := Tryz.underlying3
 a3 := Tryz.isAgg3
 z3 := Tryz.sizeOf3
 v3 := Tryz.zeroValue3
 t4 := Tryz.underlying4
 a4 := Tryz.isAgg4
 z4 := Tryz.sizeOf4
 v4 := Tryz.zeroValue4
 t9 := Tryz.underlying9
 a9 := Tryz.isAgg9
 z9 := Tryz.sizeOf9
 v9 := Tryz.zeroValue9
 t24 := Tryz.underlying292
 a24 := Tryz.isAgg292
 z24 := Tryz.sizeOf292
 v24 := Tryz.zeroValue292 }
theorem Tryz.strings_CutSuffix (s p : ByteArray) (w : World) (hs : s.size ≤ 9223372036854775807) :
  Calls Tryz.prog 195 #[.string s, .string p] w fun e w' => e = .returned (.tuple #[.string ⟨(Lib.trimSuffix s.data.toList p.data.toList).toArray⟩, .bool (Lib.hasSuffix s.data.toList p.data.toList)]) ∧ w' = w := Any.strings_CutSuffix Tryz.lays104 s p w hs
def Tryz.lays143_ren : Go.Shelf.Ren := ⟨fun | 143 => 269 | 219 => 281 | 217 => 263 | 225 => 288 | 224 => 289 | 267 => 290 | 266 => 277 | 314 => 297 | n => n, fun | 9 => 9 | 3 => 3 | 4 => 4 | 5 => 5 | 46 => 373 | 146 => 383 | 51 => 376 | n => n, fun | 1 => 4 | n => n⟩
theorem Tryz.lays143 : Go.Proofs.Lays.n143 Tryz.prog Tryz.lays143_ren := {
 mixed := by kernel_rfl
 f143 := Tryz.func269.trans (congrArg some (by kernel_rfl))
 f217 := Tryz.func263.trans (congrArg some (by kernel_rfl))
 f219 := Tryz.func281.trans (congrArg some (by kernel_rfl))
 f224 := Tryz.func289.trans (congrArg some (by kernel_rfl))
 f225 := Tryz.func288.trans (congrArg some (by kernel_rfl))
 f266 := Tryz.func277.trans (congrArg some (by kernel_rfl))
 f267 := Tryz.func290.trans (congrArg some (by kernel_rfl))
 f314 := Tryz.func297.trans (congrArg some (by kernel_rfl))
 t3 := Tryz.underlying3
 a3 := Tryz.isAgg3
 z3 := Tryz.sizeOf3
 v3 := Tryz.zeroValue3
 t4 := Tryz.underlying4
 a4 := Tryz.isAgg4
 z4 := Tryz.sizeOf4
 v4 := Tryz.zeroValue4
 t5 := Tryz.underlying5
 a5 := Tryz.isAgg5
 z5 := Tryz.sizeOf5
 v5 := Tryz.zeroValue5
 t9 := Tryz.underlying9
 a9 := Tryz.isAgg9
 z9 := Tryz.sizeOf9
 v9 := Tryz.zeroValue9
 t46 := Tryz.underlying373
 a46 := Tryz.isAgg373
 z46 := Tryz.sizeOf373
 v46 := Tryz.zeroValue373
 t51 := Tryz.underlying376
 a51 := Tryz.isAgg376
 z51 := Tryz.sizeOf376
 v51 := Tryz.zeroValue376
 t146 := Tryz.underlying383
 a146 := Tryz.isAgg383
 z146 := Tryz.sizeOf383
 v146 := Tryz.zeroValue383
 g1 := by kernel_rfl }
theorem Tryz.strings_Index_one (s : ByteArray) (c : UInt8) (w : World) :
  Calls Tryz.prog 269 #[.string s, .string ⟨#[c]⟩] w fun e w' => e = .returned (.int .i64 (Lib.indexByte s.data.toList c)) ∧ w' = w := Any.strings_Index_one Tryz.lays143 s c w
def Tryz.lays138_ren : Go.Shelf.Ren := ⟨fun | 138 => 268 | 195 => 278 | 218 => 280 | 143 => 269 | 219 => 281 | 217 => 263 | 225 => 288 | 224 => 289 | 267 => 290 | 266 => 277 | 314 => 297 | n => n, fun | 9 => 9 | 3 => 3 | 4 => 4 | 5 => 5 | 0 => 0 | 46 => 373 | 146 => 383 | 51 => 376 | n => n, fun | 1 => 4 | n => n⟩
theorem Tryz.lays138 : Go.Proofs.Lays.n138 Tryz.prog Tryz.lays138_ren := {
 mixed := by kernel_rfl
 f138 := Tryz.func268.trans (congrArg some (by kernel_rfl))
 f143 := Tryz.func269.trans (congrArg some (by kernel_rfl))
 f195 := Tryz.func278.trans (congrArg some (by kernel_rfl))
 f217 := Tryz.func263.trans (congrArg some (by kernel_rfl))
 f218 := Tryz.func280.trans (congrArg some (by kernel_rfl))
 f219 := Tryz.func281.trans (congrArg some (by kernel_rfl))
 f224 := Tryz.func289.trans (congrArg some (by kernel_rfl))
 f225 := Tryz.func288.trans (congrArg some (by kernel_rfl))
 f266 := Tryz.func277.trans (congrArg some (by kernel_rfl))
 f267 := Tryz.func290.trans (congrArg some (by kernel_rfl))
 f314 := Tryz.func297.trans (congrArg some (by kernel_rfl))
 t0 := Tryz.underlying0
 a0 := Tryz.isAgg0
 z0 := Tryz.sizeOf0
 v0 := Tryz.zeroValue0
 t3 := Tryz.underlying3
 a3 := Tryz.isAgg3
 z3 := Tryz.sizeOf3
 v3 := Tryz.zeroValue3
 t4 := Tryz.underlying4
 a4 := Tryz.isAgg4
 z4 := Tryz.sizeOf4
 v4 := Tryz.zeroValue4
 t5 := Tryz.underlying5
 a5 := Tryz.isAgg5
 z5 := Tryz.sizeOf5
 v5 := Tryz.zeroValue5
 t9 := Tryz.underlying9
 a9 := Tryz.isAgg9
 z9 := Tryz.sizeOf9
 v9 := Tryz.zeroValue9
 t46 := Tryz.underlying373
 a46 := Tryz.isAgg373
 z46 := Tryz.sizeOf373
 v46 := Tryz.zeroValue373
 t51 := Tryz.underlying376
 a51 := Tryz.isAgg376
 z51 := Tryz.sizeOf376
 v51 := Tryz.zeroValue376
 t146 := Tryz.underlying383
 a146 := Tryz.isAgg383
 z146 := Tryz.sizeOf383
 v146 := Tryz.zeroValue383
 g1 := by kernel_rfl }
theorem Tryz.strings_Count_one (s : ByteArray) (c : UInt8) (w : World) :
  Calls Tryz.prog 268 #[.string s, .string ⟨#[c]⟩] w fun e w' => e = .returned (.int .i64 (Lib.countByte s.data.toList c)) ∧ w' = w := Any.strings_Count_one Tryz.lays138 s c w
def Tryz.lays221_ren : Go.Shelf.Ren := ⟨fun | 221 => 246 | 268 => 267 | 138 => 268 | 143 => 269 | 195 => 278 | 197 => 279 | 218 => 280 | 219 => 281 | 260 => 287 | 217 => 263 | 225 => 288 | 224 => 289 | 267 => 290 | 266 => 277 | 314 => 297 | n => n, fun | 9 => 9 | 3 => 3 | 31 => 267 | 4 => 4 | 0 => 0 | 105 => 365 | 21 => 21 | 5 => 5 | 46 => 373 | 119 => 379 | 139 => 382 | 138 => 381 | 146 => 383 | 51 => 376 | n => n, fun | 1 => 4 | 3 => 6 | 4 => 7 | n => n⟩
theorem Tryz.lays221 : Go.Proofs.Lays.n221 Tryz.prog Tryz.lays221_ren := {
 mixed := by kernel_rfl
 f138 := Tryz.func268.trans (congrArg some (by kernel_rfl))
 f143 := Tryz.func269.trans (congrArg some (by kernel_rfl))
 f195 := Tryz.func278.trans (congrArg some (by kernel_rfl))
 f197 := Tryz.func279.trans (congrArg some (by kernel_rfl))
 f217 := Tryz.func263.trans (congrArg some (by kernel_rfl))
 f218 := Tryz.func280.trans (congrArg some (by kernel_rfl))
 f219 := Tryz.func281.trans (congrArg some (by kernel_rfl))
 f221 := Tryz.func246.trans (congrArg some (by kernel_rfl))
 f224 := Tryz.func289.trans (congrArg some (by kernel_rfl))
 f225 := Tryz.func288.trans (congrArg some (by kernel_rfl))
 f260 := Tryz.func287.trans (congrArg some (by kernel_rfl))
 f266 := Tryz.func277.trans (congrArg some (by kernel_rfl))
 f267 := Tryz.func290.trans (congrArg some (by kernel_rfl))
 f268 := Tryz.func267.trans (congrArg some (by kernel_rfl))
 f314 := Tryz.func297.trans (congrArg some (by kernel_rfl))
 t0 := Tryz.underlying0
 a0 := Tryz.isAgg0
 z0 := Tryz.sizeOf0
 v0 := Tryz.zeroValue0
 t3 := Tryz.underlying3
 a3 := Tryz.isAgg3
 z3 := Tryz.sizeOf3
 v3 := Tryz.zeroValue3
 t4 := Tryz.underlying4
 a4 := Tryz.isAgg4
 z4 := Tryz.sizeOf4
 v4 := Tryz.zeroValue4
 t5 := Tryz.underlying5
 a5 := Tryz.isAgg5
 z5 := Tryz.sizeOf5
 v5 := Tryz.zeroValue5
 t9 := Tryz.underlying9
 a9 := Tryz.isAgg9
 z9 := Tryz.sizeOf9
 v9 := Tryz.zeroValue9
 t21 := Tryz.underlying21
 a21 := Tryz.isAgg21
 z21 := Tryz.sizeOf21
 v21 := Tryz.zeroValue21
 t31 := Tryz.underlying267
 a31 := Tryz.isAgg267
 z31 := Tryz.sizeOf267
 v31 := Tryz.zeroValue267
 t46 := Tryz.underlying373
 a46 := Tryz.isAgg373
 z46 := Tryz.sizeOf373
 v46 := Tryz.zeroValue373
 t51 := Tryz.underlying376
 a51 := Tryz.isAgg376
 z51 := Tryz.sizeOf376
 v51 := Tryz.zeroValue376
 t105 := Tryz.underlying365
 a105 := Tryz.isAgg365
 z105 := Tryz.sizeOf365
 v105 := Tryz.zeroValue365
 t119 := Tryz.underlying379
 a119 := Tryz.isAgg379
 z119 := Tryz.sizeOf379
 t138 := Tryz.underlying381
 a138 := Tryz.isAgg381
 z138 := Tryz.sizeOf381
 v138 := Tryz.zeroValue381
 t139 := Tryz.underlying382
 a139 := Tryz.isAgg382
 z139 := Tryz.sizeOf382
 v139 := Tryz.zeroValue382
 t146 := Tryz.underlying383
 a146 := Tryz.isAgg383
 z146 := Tryz.sizeOf383
 v146 := Tryz.zeroValue383
 g1 := by kernel_rfl
 g3 := by kernel_rfl
 g4 := by kernel_rfl }
theorem Tryz.genSplit_core (s sep : ByteArray) (sv : Nat) (n : Int) (N : Nat) (w : World) (hs : s.size < 4294967281) (h1 : 1 ≤ sep.size) (hsv : sv ≤ sep.size)
  (hI : ∀ (x : ByteArray) (c : Array Value), x.size ≤ s.size → Calls Tryz.prog 269 #[.string x, .string sep] (w.alloc (.cells c 9)) fun e w' => e = .returned (.int .i64 (Lib.indexB x sep)) ∧ w' = w.alloc (.cells c 9))
  (hC : Calls Tryz.prog 268 #[.string s, .string sep] w fun e w' => e = .returned (.int .i64 (Lib.countB s sep)) ∧ w' = w)
  (hn0 : n ≠ 0) (hn63 : n ≤ 9223372036854775807) (hN : (N : Int) = min (if n < 0 then (Lib.countB s sep : Int) + 1 else n) ((s.size : Int) + 1)) :
  Calls Tryz.prog 246 #[.string s, .string sep, .int .i64 sv, .int .i64 n] w fun e w' =>
   e = .returned (.slice (some ⟨w.heap.size, 0, none⟩) (Lib.splitB sep sv (N - 1) s).length N) ∧ w' = w.alloc (.cells (Lib.cellsOf (Lib.splitB sep sv (N - 1) s) N) 9) :=
 Any.strings_genSplit_core Tryz.lays221 (by kernel_rfl) s sep sv n N w hs h1 hsv hI hC hn0 hn63 hN
end Go.Proofs

namespace Go.AL
open Go.Proofs Go.RowKit
variable {Γ : Glob}
attribute [local irreducible] codeW opsW dopsW
theorem indexByte_one (c : UInt8) : ∀ l : List UInt8, (Lib.indexByte l c = -1 ∧ c ∉ l) ∨ ∃ i : Nat, Lib.indexByte l c = i ∧ ∃ a b, l = a ++ c :: b ∧ a.length = i ∧ c ∉ a
 | [] => .inl ⟨rfl, by simp⟩
 | x :: l => by
  rw [Lib.indexByte]
  by_cases hx : x = c
  ·subst hx
   exact .inr ⟨0, by simp, [], l, rfl, rfl, by simp⟩
  ·rw [beq_eq_false_iff_ne.2 hx, if_neg (by decide)]
   rcases indexByte_one c l with ⟨h1, h2⟩ | ⟨i, h1, a, b, h2, h3, h4⟩
   ·left
    rw [h1]
    exact ⟨rfl, by simp only [List.mem_cons, not_or]; exact ⟨fun e => hx e.symm, h2⟩⟩
   ·right
    refine ⟨i + 1, ?_, x :: a, b, by rw [h2]; rfl, by simp [h3], by simp only [List.mem_cons, not_or]; exact ⟨fun e => hx e.symm, h4⟩⟩
    rw [h1, if_neg (by simp)]
    simp
theorem index_byte (c : UInt8) : ∀ l : List UInt8, Lib.index l [c] = Lib.indexByte l c
 | [] => rfl
 | x :: l => by
  rw [Lib.index, Lib.indexByte, index_byte c l]
  by_cases hx : x = c
  ·subst hx
   simp
  ·have hp : ([c] : List UInt8).isPrefixOf (x :: l) = false := by
    simp only [List.isPrefixOf, Bool.and_true]
    exact beq_eq_false_iff_ne.2 (fun e => hx e.symm)
   rw [hp, beq_eq_false_iff_ne.2 hx]
theorem f240 (s : ByteArray) : PCalls Tryz.prog Γ 240 [str s, .v (.int .u8 10)] (int (Lib.indexByte s.data.toList 10)) := by
 refine pcalls_lib (fun w vs => by kernel_rfl) fun σ w vs rel hv => ?_
 cases hv with | cons h1 hv => cases hv with | cons h2 hv => cases hv with | nil =>
 cases h1; cases h2
 exact (Tryz.strings_IndexByte s 10 w).mono fun e w' ⟨h1, h2⟩ => ⟨_, h1, .v _, by rw [h2]; exact Below.refl _ _⟩
theorem pre_minus (l : List UInt8) : Lib.hasPrefix l [45] = minusB l := by
 cases l with
 | nil => rfl
 | cons x l =>
  show ((45 : UInt8) == x && ([] : List UInt8).isPrefixOf l) = (x == 45)
  rw [List.isPrefixOf, Bool.and_true]
  by_cases h : x = 45
  ·subst h; rfl
  ·rw [beq_eq_false_iff_ne.2 h, beq_eq_false_iff_ne.2 (fun e => h e.symm)]
theorem trim_minus (l : List UInt8) : Lib.trimPrefix l [45] = bodyL l := by
 rw [Lib.trimPrefix, pre_minus, bodyL]
 cases l <;> rfl
theorem f270 (s : ByteArray) : PCalls Tryz.prog Γ 270 [str s, str ⟨#[45]⟩] (.tup [str (bts (bodyL s.data.toList)), .v (.bool (minusB s.data.toList))]) := by
 refine pcalls_lib (fun w vs => by kernel_rfl) fun σ w vs rel hv => ?_
 cases hv with | cons h1 hv => cases hv with | cons h2 hv => cases hv with | nil =>
 cases h1; cases h2
 refine (Tryz.strings_CutPrefix s ⟨#[45]⟩ w).mono fun e w' ⟨h1, h2⟩ => ⟨_, h1, ?_, by rw [h2]; exact Below.refl _ _⟩
 have e1 := trim_minus s.data.toList
 have e2 := pre_minus s.data.toList
 rw [← e1, ← e2]
 exact .tup (.cons (.v _) (.cons (.v _) .nil))
def endsB (s : ByteArray) : Bool := Lib.hasSuffix s.data.toList [10]
def cutEnd (s : ByteArray) : ByteArray := ⟨(Lib.trimSuffix s.data.toList [10]).toArray⟩
theorem ends_nl (l : List UInt8) : endsB (bts (l ++ [10])) = true := by
 show List.isSuffixOf [10] (l ++ [10]) = true
 rw [List.isSuffixOf_iff_suffix]
 exact ⟨l, rfl⟩
theorem ends_none {l : List UInt8} (h : (10 : UInt8) ∉ l) : endsB (bts l) = false := by
 show List.isSuffixOf [10] l = false
 rw [Bool.eq_false_iff]
 intro e
 rw [List.isSuffixOf_iff_suffix] at e
 obtain ⟨t, rfl⟩ := e
 exact h (by simp)
theorem cut_nl (l : List UInt8) : cutEnd (bts (l ++ [10])) = bts l := by
 have h : Lib.hasSuffix (l ++ [10]) [10] = true := ends_nl l
 show (⟨(Lib.trimSuffix (l ++ [10]) [10]).toArray⟩ : ByteArray) = bts l
 rw [Lib.trimSuffix, h, if_pos rfl]
 simp [bts]
theorem cutEnd_le (s : ByteArray) : (cutEnd s).size ≤ s.size := by
 rw [Lib.size_eq, Lib.size_eq]
 exact Lib.trimSuffix_le _ _
theorem f195 (s : ByteArray) (hs : s.size ≤ 1000000) : PCalls Tryz.prog Γ 195 [str s, str ⟨#[10]⟩] (.tup [str (cutEnd s), .v (.bool (endsB s))]) := by
 refine pcalls_lib (fun w vs => by kernel_rfl) fun σ w vs rel hv => ?_
 cases hv with | cons h1 hv => cases hv with | cons h2 hv => cases hv with | nil =>
 cases h1; cases h2
 exact (Tryz.strings_CutSuffix s ⟨#[10]⟩ w (by omega)).mono fun e w' ⟨h1, h2⟩ => ⟨_, h1, .tup (.cons (.v _) (.cons (.v _) .nil)), by rw [h2]; exact Below.refl _ _⟩
theorem reps_strs {w : World} {σ : Sig} : ∀ l : List ByteArray, Reps w σ (strs l) (l.map Value.string)
 | [] => .nil
 | x :: l => .cons (.v _) (reps_strs l)
theorem f246 (s : ByteArray) (hs : s.size ≤ 1000000) : PCalls Tryz.prog Γ 246 [str s, str ⟨#[32]⟩, int 0, int (-1)] (slStr (rowsB 32 s)) := by
 refine pcalls_lib (fun w vs => by kernel_rfl) fun σ w vs rel hv => ?_
 cases hv with | cons h1 hv => cases hv with | cons h2 hv => cases hv with | cons h3 hv => cases hv with | cons h4 hv => cases hv with | nil =>
 cases h1; cases h2; cases h3; cases h4
 have hcb := Lib.countB_le ⟨#[32]⟩ (Nat.le_refl _) s.size s (Nat.le_refl _)
 refine (Tryz.genSplit_core s ⟨#[32]⟩ 0 (-1) (Lib.countB s ⟨#[32]⟩ + 1) w (by omega) (Nat.le_refl _) (Nat.zero_le _) (fun x c hx => ?_) ?_ (by decide) (by decide) ?_).mono fun e w' ⟨h1, h2⟩ => ⟨_, h1, ?_, ?_⟩
 ·have := Tryz.strings_Index_one x 32 (w.alloc (.cells c 9))
  rw [← index_byte] at this
  exact this
 ·have := Tryz.strings_Count_one s 32 w
  rw [Lib.countByte, ← Lib.count_one] at this
  exact this
 ·rw [if_pos (by decide)]
  omega
 ·have e1 : Lib.splitB ⟨#[32]⟩ 0 (Lib.countB s ⟨#[32]⟩ + 1 - 1) s = rowsB 32 s := split_rows 32 _ s rfl
  have e2 : (rowsB 32 s).length = Lib.countB s ⟨#[32]⟩ + 1 := rows_count 32 s
  rw [e1] at h2 ⊢
  rw [← e2] at h2 ⊢
  rw [Lib.cellsOf_full] at h2
  refine Rep.sl (reps_strs _) (fun _ => ⟨by rw [h2]; show w.heap.size < (w.heap.push _).size; simp, rel.fresh, fun i v hi => ?_⟩) (Nat.le_refl _)
  rw [h2]
  rw [plain_add, Nat.zero_add, cell?_row (l := (rowsB 32 s).map Value.string) (el := 9) (fz := (0, 0)) (heap_alloc_new w _)]
  exact hi
 ·rw [h2]
  exact (Below.refl _ _).alloc (Nat.le_refl _) _
theorem f196 (s : ByteArray) (hs : s.size ≤ 1000000) : PCalls Tryz.prog Γ 196 [str s, str ⟨#[32]⟩] (slStr (rowsB 32 s)) := by
 refine pcalls (ok196 Γ) fun σ => ?_
 simp only [go_sem, Tryz.f196]
 refine callB_use (f246 s hs) rfl ?_
 simp only [go_sem, slStr]
end Go.AL

namespace Go.AL
section
variable {P : Program} {Γ : Glob} {σ : Sig} {t k e : TypeId} {b : Nat} {l : List (ByteArray × Int)} {s : ByteArray} {n : Int} {K : AV → Sig → Prop}
end
open Go.Proofs
def StableB (E : Nat → Blk → Prop) (I : Sig → Prop) : Prop := ∀ σ b y, (σ b = none ∨ ∃ x, σ b = some x ∧ E b x) → I σ → I (upd σ b y)
def IterB (P : Program) (Γ : Glob) (D : Blk → Prop) (E : Nat → Blk → Prop) (f : FuncId) (first captured : List AV) (pre : Sig → Prop) (xs : List AV) : Prop :=
 ∀ (yv : AV) (σ0 : Sig) (I : Nat → Sig → Prop) (K : Sig → Prop), pre σ0 → (∀ k, StableB E (I k)) → StableB E K → I 0 σ0 →
  (∀ k x σ, xs[k]? = some x → I k σ → callB P Γ yv [x] σ fun r σ' => Keep D σ σ' ∧ ((r = .v (.bool true) ∧ I (k + 1) σ') ∨ (r = .v (.bool false) ∧ K σ'))) →
  (∀ σ, I xs.length σ → K σ) → ACalls P Γ f (first ++ [yv] ++ captured) σ0 fun _ σ' => K σ'
def ClosedB (E : Nat → Blk → Prop) (σ : Sig) (J : Sig → Prop) : Prop := ∀ σ' b y, (σ' b = none ∨ (σ b = none ∧ ∃ x, σ' b = some x ∧ Ctl x) ∨ ∃ x, σ' b = some x ∧ E b x) → J σ' → J (upd σ' b y)
theorem SemC.rangeB {p : Par} {N : Nat} {g : Operand} {t : Tmp} {assign body : Code} {Q : Post} {ρ : Env} {σ : Sig} {ds : List Nat} {f : FuncId} {first captured : List AV} {xs : List AV} {D : Blk → Prop} {E : Nat → Blk → Prop} {pre : Sig → Prop}
  (hm : p.P.follows .mixedOrders = true) (hfv : aev p.Γ ρ g = .fn (.func f) first captured) (hit : IterB p.P p.Γ D E f first captured pre xs) (ht : t < N) (ok1 : codeOk p N assign = true) (ok2 : codeOk p N body = true)
  (hDC : ∀ x, D x → ¬ Ctl x) (hEC : ∀ b x, E b x → ¬ Ctl x) (hpre : ∀ b1 b2 x y, σ b1 = none → σ b2 = none → pre (upd (upd σ b1 (some x)) b2 (some y)))
  (J : Nat → Sig → Prop) (R : Exit → Sig → Prop) (A : Nat → AV → Env → Sig → Prop)
  (hJ : ∀ k, ClosedB E σ (J k)) (hR : ∀ e, ClosedB E σ (R e)) (hA : ∀ k x ρ, ClosedB E σ (A k x ρ)) (h0 : J 0 σ)
  (asg : ∀ k x E σ' l, (∀ i, i < N → E i = ρ i) → xs[k]? = some x → J k σ' → codeW p (some l) N assign (fun e ρ1 σ1 ds1 => e = .normal ∧ ds1 = [] ∧ Keep (KD D) σ' σ1 ∧ A k x ρ1 σ1) (upd E t x) σ' [])
  (rnd : ∀ k x ρ1 σ' l, xs[k]? = some x → A k x ρ1 σ' → codeW p (some l) N body (fun e ρ2 σ2 ds2 => Keep (KD D) σ' σ2 ∧ match e with
   | .normal => J (k + 1) σ2
   | .ret => R .ret σ2
   | .exit id => R (.exit id) σ2
   | _ => False) ρ1 σ' [])
  (fin : ∀ σ' r, σ r = none → J xs.length σ' → σ' r = some (.obj (.deferred (some []))) → Q .normal ρ σ' (r :: ds))
  (finR : ∀ e σ' r, σ r = none → R e σ' → σ' r = some (.obj (.deferred (some []))) → Q e ρ σ' (r :: ds)) : SemC p none N (.rangeFunc g #[t] assign body) Q ρ σ ds := by
 refine SemC.rangeFunc hfv (fun r l lp hr hl hlr hps has hbd hst hpe htm => ?_)
 subst has
 subst hbd
 have hcs : ∀ i, i < N → envOf ((List.range N).map ρ) i = ρ i := fun i hi => env_range N ρ i hi
 generalize (List.range N).map ρ = cs at hcs
 have hrl : ¬ r = l := fun e => hlr e.symm
 have hlst := loop_as hst hpe
 have nD : ∀ lp cs, ¬ D (.loop lp cs) := fun lp cs h => hDC _ h trivial
 have nE : ∀ b lp cs, ¬ E b (.loop lp cs) := fun b lp cs h => hEC _ _ h trivial
 have nEo : ∀ b o, ¬ E b (.obj o) := fun b o h => hEC _ _ h trivial
 refine (hit (.fn (.yield l) [] []) _ (fun k σ' => J k σ' ∧ σ' l = some (.loop lp cs) ∧ σ' r = some (.obj (.deferred (some []))))
  (fun σ' => ∃ st pend cs, σ' l = some (.loop { lp with state := st, pending := pend } cs) ∧ st ≠ .busy ∧ σ' r = some (.obj (.deferred (some []))) ∧ match pend with
   | none => J xs.length σ'
   | some .ret => R .ret σ'
   | some (.exit id) => R (.exit id) σ'
   | _ => False) (hpre _ _ _ _ hr hl) ?_ ?_ ?_ ?_ ?_).mono ?_
 ·intro k σ' b y hb ⟨h1, h2, h3⟩
  have hbl : ¬ l = b := fun e => by
   subst e
   rcases hb with h | ⟨x, h, hd⟩
   ·rw [h2] at h; cases h
   ·rw [h2] at h; cases h; exact nE _ _ _ hd
  have hbr : ¬ r = b := fun e => by
   subst e
   rcases hb with h | ⟨x, h, hd⟩
   ·rw [h3] at h; cases h
   ·rw [h3] at h; cases h; exact nEo _ _ hd
  refine ⟨hJ k σ' b y ?_ h1, by rw [upd_ne _ _ _ _ hbl]; exact h2, by rw [upd_ne _ _ _ _ hbr]; exact h3⟩
  rcases hb with h | h
  ·exact .inl h
  ·exact .inr (.inr h)
 ·intro σ' b y hb ⟨st, pend, cs', h2, hst', h3, h1⟩
  have hbl : ¬ l = b := fun e => by
   subst e
   rcases hb with h | ⟨x, h, hd⟩
   ·rw [h2] at h; cases h
   ·rw [h2] at h; cases h; exact nE _ _ _ hd
  have hbr : ¬ r = b := fun e => by
   subst e
   rcases hb with h | ⟨x, h, hd⟩
   ·rw [h3] at h; cases h
   ·rw [h3] at h; cases h; exact nEo _ _ hd
  refine ⟨st, pend, cs', by rw [upd_ne _ _ _ _ hbl]; exact h2, hst', by rw [upd_ne _ _ _ _ hbr]; exact h3, ?_⟩
  have hc : σ' b = none ∨ (σ b = none ∧ ∃ x, σ' b = some x ∧ Ctl x) ∨ ∃ x, σ' b = some x ∧ E b x := by
   rcases hb with h | h
   ·exact .inl h
   ·exact .inr (.inr h)
  cases pend with
  | none => exact hJ _ σ' b y hc h1
  | some e =>
   cases e with
   | ret => exact hR _ σ' b y hc h1
   | exit id => exact hR _ σ' b y hc h1
   | _ => exact h1.elim
 ·refine ⟨hJ 0 _ l _ (.inl ?_) (hJ 0 _ r _ (.inl hr) h0), upd_same _ _ _, by rw [upd_ne _ _ _ _ hrl, upd_same]⟩
  rw [upd_ne _ _ _ _ hlr]; exact hl
 ·intro k x σ' hx ⟨h1, h2, h3⟩
  refine yield_call (p := p) (N := N) (lp := lp) h2 hps hst htm ht ?_
  refine SemC.mono (codeW_sound (p := p) hm _ _ _ _ _ ok1 (asg k x _ σ' l hcs hx h1)) ?_
  rintro e ρ1 σ1 ds1 ⟨rfl, rfl, hk1, ha⟩
  have l1 := hk1 l _ h2 (.inl trivial)
  have r1 := hk1 r _ h3 (.inl trivial)
  refine ⟨rfl, cs, l1, ?_⟩
  have ha' : A k x ρ1 (upd σ1 l (some (.loop { lp with state := .busy } cs))) := hA k x ρ1 σ1 l _ (.inr (.inl ⟨hl, _, l1, trivial⟩)) ha
  refine SemC.mono (codeW_sound (p := p) hm _ _ _ _ _ ok2 (rnd k x ρ1 _ l hx ha')) ?_
  rintro e ρ2 σ2 ds2 ⟨hk2, he⟩
  have l2 := hk2 l _ (upd_same _ _ _) (.inl trivial)
  have r2 := hk2 r _ ((upd_ne _ _ _ _ hrl).trans r1) (.inl trivial)
  refine ⟨cs, l2, ?_⟩
  have hkd : ∀ y, Keep D σ' (upd σ2 l y) := fun y b x hb hx => by
   have hbl : ¬ b = l := fun e => by subst e; rw [h2] at hb; cases hb; exact nD _ _ hx
   rw [upd_ne _ _ _ _ hbl]
   exact hk2 b x (by rw [upd_ne _ _ _ _ hbl]; exact hk1 b x hb (.inr hx)) (.inr hx)
  have hcl : σ2 l = none ∨ (σ l = none ∧ ∃ x, σ2 l = some x ∧ Ctl x) ∨ ∃ x, σ2 l = some x ∧ E l x := .inr (.inl ⟨hl, _, l2, trivial⟩)
  cases e with
  | normal =>
   refine ⟨hkd _, .inl ⟨rfl, hJ _ σ2 l _ hcl he, ?_, ?_⟩⟩
   ·rw [upd_same, hlst]
   ·rw [upd_ne _ _ _ _ hrl]; exact r2
  | ret =>
   refine ⟨hkd _, .inr ⟨rfl, _, _, _, upd_same _ _ _, by simp, ?_, hR _ σ2 l _ hcl he⟩⟩
   rw [upd_ne _ _ _ _ hrl]; exact r2
  | exit id =>
   refine ⟨hkd _, .inr ⟨rfl, _, _, _, upd_same _ _ _, by simp, ?_, hR _ σ2 l _ hcl he⟩⟩
   rw [upd_ne _ _ _ _ hrl]; exact r2
  | _ => exact he.elim
 ·rintro σ' ⟨h1, h2, h3⟩
  exact ⟨lp.state, lp.pending, cs, h2, by rw [hst]; simp, h3, by rw [hpe]; exact h1⟩
 ·rintro _ σ' ⟨st, pend, cs', h2, hst', h3, h1⟩
  refine ⟨st, pend, cs', h2, hst', ?_⟩
  have hcl : σ' l = none ∨ (σ l = none ∧ ∃ x, σ' l = some x ∧ Ctl x) ∨ ∃ x, σ' l = some x ∧ E l x := .inr (.inl ⟨hl, _, h2, trivial⟩)
  have h3' : ers σ' l r = some (.obj (.deferred (some []))) := by rw [ers_ne _ _ _ hrl]; exact h3
  cases pend with
  | none => exact fin _ r hr (show J xs.length (ers σ' l) from hJ _ σ' l none hcl h1) h3'
  | some e =>
   cases e with
   | ret => exact finR _ _ r hr (show R _ (ers σ' l) from hR _ σ' l none hcl h1) h3'
   | exit id => exact finR _ _ r hr (show R _ (ers σ' l) from hR _ σ' l none hcl h1) h3'
   | _ => exact h1.elim
section
variable {E : Nat → Blk → Prop} {σ : Sig}
theorem closedB_ne {σ σ' : Sig} {b b' : Nat} {cs : List AV} {s c : Nat} (hD : ∀ b, ¬ E b (.row cs s c)) (h : σ' b = none ∨ (σ b = none ∧ ∃ x, σ' b = some x ∧ Ctl x) ∨ ∃ x, σ' b = some x ∧ E b x) (hb : σ' b' = some (.row cs s c)) : ¬ b' = b := fun e => by
 subst e
 rcases h with h | ⟨_, x, h, hx⟩ | ⟨x, h, hx⟩
 ·rw [h] at hb; cases hb
 ·rw [h] at hb; cases hb; exact hx
 ·rw [h] at hb; cases hb; exact hD _ hx
theorem ClosedB.and {I J : Sig → Prop} (h : ClosedB E σ I) (k : ClosedB E σ J) : ClosedB E σ fun σ' => I σ' ∧ J σ' := fun σ' b y hb ⟨h1, h2⟩ => ⟨h σ' b y hb h1, k σ' b y hb h2⟩
theorem ClosedB.ex {α : Type} {I : α → Sig → Prop} (h : ∀ a, ClosedB E σ (I a)) : ClosedB E σ fun σ' => ∃ a, I a σ' := fun σ' b y hb ⟨a, h1⟩ => ⟨a, h a σ' b y hb h1⟩
theorem ClosedB.const (q : Prop) : ClosedB E σ fun _ => q := fun _ _ _ _ h => h
theorem ClosedB.row {b' : Nat} {cs : List AV} {s c : Nat} (hD : ∀ b, ¬ E b (.row cs s c)) : ClosedB E σ fun σ' => σ' b' = some (.row cs s c) := fun σ' b y hb h => by
 show upd σ' b y b' = _
 rw [upd_ne _ _ _ _ (closedB_ne hD hb h)]; exact h
theorem ClosedB.drop {σ0 : Sig} (hd : Drop σ σ0) (hD : ∀ b x y, σ0 b = some x → ¬ E b y) : ClosedB E σ fun σ' => Drop σ' σ0 := fun σ' b y hb h => by
 have hb0 : σ0 b = none := by
  rcases hb with h1 | ⟨h1, _⟩ | ⟨x, h1, hx⟩
  ·exact h.free h1
  ·exact hd.free h1
  ·cases h2 : σ0 b with
   | none => rfl
   | some z => exact absurd hx (hD b z x h2)
 exact h.upd hb0
theorem ClosedB.grow {σ0 : Sig} {s n : Nat} {a : AV} {cs : List AV} (hD : ∀ b c, ¬ E b (.row cs s c)) : ClosedB E σ fun σ' => Grow σ0 σ' s a cs n := fun σ' b y hb h => by
 rcases h with h | ⟨b', c, h0, h1, h2, h3⟩
 ·exact .inl h
 ·exact .inr ⟨b', c, h0, h1, by rw [upd_ne _ _ _ _ (closedB_ne (fun b => hD b c) hb h2)]; exact h2, h3⟩
end
end Go.AL
