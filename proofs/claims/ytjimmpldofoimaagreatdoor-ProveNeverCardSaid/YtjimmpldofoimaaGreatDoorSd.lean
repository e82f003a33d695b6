import Derived.Test.YtjimmpldofoimaaGreatDoorSb
import Derived.Test.YtjimmpldofoimaaGreatDoorSc
import Derived.Test.YtjimmpldofoimaaGreatDoorXc
import Derived.Test.YtjimmpldofoimaaGreatDoorXf
import Derived.Test.YtjimmpldofoimaaGreatDoorXq
set_option linter.unusedVariables false
set_option linter.unusedSimpArgs false
namespace Go.AL
open Go.Proofs
def numsB (l : List Int) : List UInt8 := l.flatMap fun n => 32 :: Lib.itoa n
theorem joinTail_nums : ∀ l : List Int, Lib.joinTail [32] ((l.map itoaP).map (·.data.toList)) = numsB l
 | [] => rfl
 | n :: l => by
  have ih := joinTail_nums l
  simp only [Lib.joinTail, numsB, List.map_cons, List.flatten_cons, List.flatMap_cons] at ih ⊢
  rw [ih]
  rfl
theorem lineF_data (w : ByteArray) (l : List Int) : (lineF w l).data.toList = w.data.toList ++ numsB l ++ [10] := by
 have e : (lineF w l).data.toList = Lib.join ((w :: l.map itoaP).map (·.data.toList)) bSp.data.toList ++ [10] := by
  simp [lineF, joinP, bNl]
 rw [e, List.map_cons, Lib.join_cons]
 have : bSp.data.toList = [32] := rfl
 rw [this, joinTail_nums]
theorem cut_words : ∀ (l : List Int) (w : List UInt8), (32 : UInt8) ∉ w → cutL 32 (w ++ numsB l) = w :: l.map Lib.itoa
 | [], w, h => by rw [numsB, List.flatMap_nil, List.append_nil, cutL_none h]; rfl
 | n :: l, w, h => by
  have e : w ++ numsB (n :: l) = w ++ 32 :: (Lib.itoa n ++ numsB l) := by
   rw [numsB, List.flatMap_cons]; rfl
  rw [e, cutL_hit h, cut_words l _ (itoa_free n 32 (by decide))]
  rfl
theorem nums_free (c : UInt8) (hc : c.toNat < 45) (h32 : c ≠ 32) : ∀ l : List Int, c ∉ numsB l
 | [] => by simp [numsB]
 | n :: l => by
  have ih := nums_free c hc h32 l
  simp only [numsB, List.flatMap_cons, List.mem_append, List.mem_cons, not_or] at ih ⊢
  exact ⟨⟨h32, itoa_free n c hc⟩, ih⟩
theorem cut_lines : ∀ bs : List (List UInt8), (∀ b ∈ bs, (10 : UInt8) ∉ b) → cutL 10 (bs.flatMap fun b => b ++ [10]) = bs ++ [[]]
 | [], _ => rfl
 | b :: bs, h => by
  have e : ((b :: bs).flatMap fun b => b ++ [10]) = b ++ 10 :: (bs.flatMap fun b => b ++ [10]) := by
   rw [List.flatMap_cons]; simp
  rw [e, cutL_hit (h b (by simp)), cut_lines bs fun x hx => h x (by simp [hx])]
  rfl
variable {Γ : Glob}
attribute [local irreducible] codeW opsW dopsW
theorem str_eq2 (a : List UInt8) (b : ByteArray) : (b.toList == (bts a).toList) = decide (b = bts a) := by
 by_cases h : b = bts a
 ·rw [h, decide_eq_true rfl]; exact beq_self_eq_true _
 ·rw [decide_eq_false h, Lib.toList_data, Lib.toList_data]
  exact beq_eq_false_iff_ne.2 fun e => h (ByteArray.ext (Array.toList_inj.1 e))
def RawOk (cs : List AV) (l : List Nd) : Prop := ∀ σ1 σ2 : Sig, FzL σ1 σ2 cs (l.flatMap ndC)
theorem RawOk.nil : RawOk [] [] := fun _ _ => .nil
end Go.AL
