import Derived.Test.YtjimmpldofoimaaGreatDoorSa
import Derived.Test.YtjimmpldofoimaaGreatDoorXc
import Derived.Test.YtjimmpldofoimaaGreatDoorXf
import Derived.Laws.RangeAny
open Go.AL renaming retPost_one → xP, retPost_oneN → xR, ers_at' → xS
set_option linter.unusedVariables false
set_option linter.unusedSimpArgs false
namespace Go.AL
open Go.Proofs
variable {Γ : Glob}
attribute [local irreducible] codeW opsW dopsW
attribute [go_sem] str
theorem u3 : Tryz.prog.underlying 3 = some (.int .i64) := by kernel_rfl
noncomputable def intR (m : Nat) (s : ByteArray) : AV := .tup [int ((intO m s.data.toList).getD 0), .v (.bool (intO m s.data.toList).isSome)]
theorem intR_bad {m : Nat} {s : ByteArray} (h : intBad m s.data.toList) : intR m s = .tup [int 0, .v (.bool false)] := by rw [intR, intO_none h]; rfl
theorem intR_good {m : Nat} {s : ByteArray} (h : ¬ intBad m s.data.toList) : intR m s = .tup [int (if minusB s.data.toList then - decL (bodyL s.data.toList) else decL (bodyL s.data.toList)), .v (.bool true)] := by rw [intR, intO_some h]; rfl
theorem drop_one {α : Type} {l : List α} {k : Nat} {x : α} (h : l.drop k = [x]) : l[k]? = some x ∧ k + 1 = l.length := by
 have h1 : (l.drop k)[0]? = some x := by rw [h]; rfl
 have h2 := congrArg List.length h
 rw [List.length_drop] at h2
 rw [List.getElem?_drop] at h1
 have := lt_of_getElem? h1
 simp at h2
 exact ⟨h1, by omega⟩
theorem bts_ne {B : List UInt8} (h : B ≠ []) : ((bts B).toList == (⟨#[]⟩ : ByteArray).toList) = false := by
 rw [Lib.toList_data, Lib.toList_data]
 exact beq_eq_false_iff_ne.2 h
theorem bts_nil : ((bts []).toList == (⟨#[]⟩ : ByteArray).toList) = true := beq_self_eq_true _
theorem bts_head (y : UInt8) (B : List UInt8) : (bts (y :: B)).data.getD 0 0 = y := by
 simp [bts, Array.getD_eq_getD_getElem?]
theorem bts_getD {B : List UInt8} {k : Nat} {x : UInt8} (h : B[k]? = some x) : (bts B).data.getD k 0 = x := by
 simp [bts, Array.getD_eq_getD_getElem?, h]
theorem bts_at {B : List UInt8} {k : Nat} {x : UInt8} (h : B[k]? = some x) (hk : k < (bts B).size) : (bts B)[k] = x := by
 rw [getD_of_lt _ _ hk, bts_getD h]
theorem dig_iff {x : UInt8} (h1 : ¬ (x.toNat : Int) < 48) (h2 : ¬ (57 : Int) < x.toNat) : isDig x = true := by
 simp only [isDig, decide_eq_true_eq]
 omega
theorem u8_48 {y : UInt8} (h : (y.toNat : Int) = 48) : y = 48 := by
 apply UInt8.toNat_inj.1
 show y.toNat = 48
 omega
theorem pow_13 (k : Nat) (h : k ≤ 13) : (10 : Int) ^ k ≤ 10000000000000 := by
 have h1 : (10 : Nat) ^ k ≤ 10 ^ 13 := Nat.pow_le_pow_right (by decide) h
 have h2 : ((10 ^ k : Nat) : Int) ≤ ((10 ^ 13 : Nat) : Int) := Int.ofNat_le.2 h1
 rw [Int.natCast_pow] at h2
 exact h2
theorem dig_no {x : UInt8} (h : (x.toNat : Int) < 48 ∨ (57 : Int) < x.toNat) : isDig x = false := by
 simp only [isDig, decide_eq_false_iff_not]
 omega
set_option maxHeartbeats 2000000 in
theorem f247 (s : ByteArray) (hs : s.size ≤ 1000000) : PCalls Tryz.prog Γ 247 [str s] (intR 13 s) := by
 obtain ⟨B, hB⟩ : ∃ B, bodyL s.data.toList = B := ⟨_, rfl⟩
 obtain ⟨mb, hmb⟩ : ∃ mb, minusB s.data.toList = mb := ⟨_, rfl⟩
 have hBs : B.length ≤ 1000000 := by
  rw [← hB, bodyL]
  have := Lib.size_eq s
  split
  ·rw [List.length_tail]; omega
  ·omega
 have hsz := bts_size B
 have bad : intBad 13 s.data.toList → intR 13 s = .tup [int 0, .v (.bool false)] := intR_bad
 have good := fun h => @intR_good 13 s h
 have hbad : intBad 13 s.data.toList ↔ (B = [] ∨ 13 < B.length ∨ ¬ (∀ b ∈ B, isDig b = true) ∨ (B.head? = some 48 ∧ (1 < B.length ∨ mb = true))) := by rw [intBad, hB, hmb]
 rw [hB, hmb] at good
 rw [hbad] at bad good
 generalize intR 13 s = R at bad good
 refine pcalls (ok247 Γ) fun σ => ?_
 simp only [go_sem, xP, xR, xS, Tryz.f247]
 refine callB_use (f270 s) rfl ?_
 simp only [go_sem, xP, xR, xS, hB, hmb]
 intro b hb
 simp only [go_sem, xP, xR, xS]
 refine SemC.loopK mixed B.length (fun k ρ σ' ds => ds = [] ∧ ρ 4 = str (bts B) ∧ ρ 5 = .v (.bool mb) ∧ ρ 15 = .v (.pointer (some ⟨b, 0, none⟩)) ∧ ρ 6 = int (decL (B.take k)) ∧ σ' = upd σ b (some (.obj (.stringIter (bts B) k))) ∧ (∀ x ∈ B.take k, isDig x = true) ∧ (0 < k → B.length ≤ 13)) (by kernel_rfl) ⟨rfl, rfl, rfl, rfl, rfl, rfl, by simp, by omega⟩ ?_
 rintro k ρ σ' ds hk ⟨rfl, h4, h5, h15, h6, rfl, hd, hm⟩
 rcases get_or_end B k hk with ⟨x, hx, hlt, _⟩ | hk
 ·have hk1 : k < (bts B).size := by rw [hsz]; exact hlt
  by_cases hlow : x.toNat < 128
  ·have hdec : Utf8.decode (bts B) k = (x.toNat, 1) := by
    have := decode_ascii (bts B) k hk1 (by rw [bts_at hx]; exact hlow)
    rw [this, bts_at hx]
   by_cases h1 : (x.toNat : Int) < 48
   ·simp only [go_sem, xP, xR, xS, h4, h5, h15, h6, hk1, hdec, h1]
    rw [bad (.inr (.inr (.inl fun h => by have := h x (List.mem_of_getElem? hx); rw [dig_no (.inl h1)] at this; cases this)))]
    exact retP_drop (by repeat (first | exact Drop.refl _ | assumption | refine Drop.upd ?_ (by assumption))) (rfl)
   by_cases h2 : (57 : Int) < x.toNat
   ·simp only [go_sem, xP, xR, xS, h4, h5, h15, h6, hk1, hdec, h1, h2]
    rw [bad (.inr (.inr (.inl fun h => by have := h x (List.mem_of_getElem? hx); rw [dig_no (.inr h2)] at this; cases this)))]
    exact retP_drop (by repeat (first | exact Drop.refl _ | assumption | refine Drop.upd ?_ (by assumption))) (rfl)
   by_cases h3 : (13 : Int) < (bts B).size
   ·simp only [go_sem, xP, xR, xS, h4, h5, h15, h6, hk1, hdec, h1, h2, h3]
    rw [bad (.inr (.inl (by omega)))]
    exact retP_drop (by repeat (first | exact Drop.refl _ | assumption | refine Drop.upd ?_ (by assumption))) (rfl)
   obtain ⟨d0, d1⟩ := decL_bound _ hd
   have hpw : (10 : Int) ^ (B.take k).length ≤ 10000000000000 := pow_13 _ (by rw [List.length_take]; omega)
   have w1 : IntKind.i64.wrap (10 * decL (B.take k)) = 10 * decL (B.take k) := wrap_i64 _ (by omega) (by omega)
   have w2 : IntKind.i32.wrap ((x.toNat : Int) - 48) = (x.toNat : Int) - 48 := IntWalk.i32_in _ ⟨by omega, by omega⟩
   have w3 : IntKind.i64.wrap ((x.toNat : Int) - 48) = (x.toNat : Int) - 48 := wrap_i64 _ (by omega) (by omega)
   have w4 : IntKind.i64.wrap (10 * decL (B.take k) + ((x.toNat : Int) - 48)) = 10 * decL (B.take k) + ((x.toNat : Int) - 48) := wrap_i64 _ (by omega) (by omega)
   simp only [go_sem, xP, xR, xS, h4, h5, h15, h6, hk1, hdec, h1, h2, h3, w1, w2, w3, w4, u3, Option.isSome_some]
   refine ⟨hlt, by rw [take_succ hx, decL_snoc], fun y hy => ?_, fun _ => by omega⟩
   rw [take_succ hx] at hy
   rcases List.mem_append.1 hy with hy | hy
   ·exact hd y hy
   ·rw [List.mem_singleton.1 hy]
    exact dig_iff h1 h2
  ·obtain ⟨r, wd, hdec⟩ : ∃ r wd, Utf8.decode (bts B) k = (r, wd) := ⟨_, _, rfl⟩
   have hr := (decode_high (bts B) k hk1 (by rw [bts_at hx]; omega)).1
   rw [hdec] at hr
   have h1 : ¬ (r : Int) < 48 := by omega
   have h2 : (57 : Int) < r := by omega
   simp only [go_sem, xP, xR, xS, h4, h5, h15, h6, hk1, hdec, h1, h2]
   rw [bad (.inr (.inr (.inl fun h => by have := h x (List.mem_of_getElem? hx); rw [dig_no (.inr (by omega))] at this; cases this)))]
   exact retP_drop (by repeat (first | exact Drop.refl _ | assumption | refine Drop.upd ?_ (by assumption))) (rfl)
 ·have htk : B.take k = B := by rw [hk, List.take_length]
  rw [htk] at h6 hd
  have hk1 : ¬ k < (bts B).size := by omega
  cases B with
  | nil =>
   simp only [go_sem, xP, xR, xS, h4, h5, h15, h6, hk1, bts_nil]
   rw [bad (.inl rfl)]
   exact retP_drop (by repeat (first | exact Drop.refl _ | assumption | refine Drop.upd ?_ (by assumption))) (rfl)
  | cons y B =>
   have hm' := hm (by rw [hk]; simp)
   have g0 : (0 : Int) < ((bts (y :: B)).size : Int) := by rw [hsz]; simp
   have hne := bts_ne (B := y :: B) (by simp)
   have gn : 0 < (bts (y :: B)).size := by omega
   obtain ⟨d0, d1⟩ := decL_bound _ hd
   have hpw : (10 : Int) ^ (y :: B).length ≤ 10000000000000 := pow_13 _ (by omega)
   have w5 : IntKind.i64.wrap (0 - decL (y :: B)) = -decL (y :: B) := by rw [Int.zero_sub]; exact wrap_i64 _ (by omega) (by omega)
   by_cases h1 : (y.toNat : Int) = 48
   ·have hy := u8_48 h1
    by_cases h2 : (1 : Int) < ((bts (y :: B)).size : Int)
    ·simp only [go_sem, xP, xR, xS, h4, h5, h15, h6, hk1, hne, gn, bts_head, h1, h2]
     rw [bad (.inr (.inr (.inr ⟨by rw [hy]; rfl, .inl (by omega)⟩)))]
     exact retP_drop (by repeat (first | exact Drop.refl _ | assumption | refine Drop.upd ?_ (by assumption))) (rfl)
    ·cases mb with
     | true =>
      simp only [go_sem, xP, xR, xS, h4, h5, h15, h6, hk1, hne, gn, bts_head, h1, h2]
      rw [bad (.inr (.inr (.inr ⟨by rw [hy]; rfl, .inr rfl⟩)))]
      exact retP_drop (by repeat (first | exact Drop.refl _ | assumption | refine Drop.upd ?_ (by assumption))) (rfl)
     | false =>
      simp only [go_sem, xP, xR, xS, h4, h5, h15, h6, hk1, hne, gn, bts_head, h1, h2]
      rw [good (by
       rintro (h | h | h | ⟨_, h | h⟩)
       ·cases h
       ·omega
       ·exact h hd
       ·omega
       ·cases h)]
      exact retP_drop (by repeat (first | exact Drop.refl _ | assumption | refine Drop.upd ?_ (by assumption))) (rfl)
   ·have hgood : ¬ ((y :: B) = [] ∨ 13 < (y :: B).length ∨ ¬ (∀ b ∈ (y :: B), isDig b = true) ∨ ((y :: B).head? = some 48 ∧ (1 < (y :: B).length ∨ mb = true))) := by
     rintro (h | h | h | ⟨h, _⟩)
     ·cases h
     ·omega
     ·exact h hd
     ·exact h1 (by have h : y = 48 := Option.some.inj h; rw [h]; rfl)
    cases mb with
    | true =>
     simp only [go_sem, xP, xR, xS, h4, h5, h15, h6, hk1, hne, gn, bts_head, h1, w5]
     rw [good hgood]
     exact retP_drop (by repeat (first | exact Drop.refl _ | assumption | refine Drop.upd ?_ (by assumption))) (rfl)
    | false =>
     simp only [go_sem, xP, xR, xS, h4, h5, h15, h6, hk1, hne, gn, bts_head, h1]
     rw [good hgood]
     exact retP_drop (by repeat (first | exact Drop.refl _ | assumption | refine Drop.upd ?_ (by assumption))) (rfl)
set_option maxHeartbeats 2000000 in
theorem f264 (s : ByteArray) (hs : s.size ≤ 1000000) : PCalls Tryz.prog Γ 264 [str s] (intR 10 s) := by
 obtain ⟨B, hB⟩ : ∃ B, bodyL s.data.toList = B := ⟨_, rfl⟩
 obtain ⟨mb, hmb⟩ : ∃ mb, minusB s.data.toList = mb := ⟨_, rfl⟩
 have hBs : B.length ≤ 1000000 := by
  rw [← hB, bodyL]
  have := Lib.size_eq s
  split
  ·rw [List.length_tail]; omega
  ·omega
 have hsz := bts_size B
 have bad : intBad 10 s.data.toList → intR 10 s = .tup [int 0, .v (.bool false)] := intR_bad
 have good := fun h => @intR_good 10 s h
 have hbad : intBad 10 s.data.toList ↔ (B = [] ∨ 10 < B.length ∨ ¬ (∀ b ∈ B, isDig b = true) ∨ (B.head? = some 48 ∧ (1 < B.length ∨ mb = true))) := by rw [intBad, hB, hmb]
 rw [hB, hmb] at good
 rw [hbad] at bad good
 generalize intR 10 s = R at bad good
 refine pcalls (ok264 Γ) fun σ => ?_
 simp only [go_sem, xP, xR, xS, Tryz.f264]
 refine callB_use (f270 s) rfl ?_
 simp only [go_sem, xP, xR, xS, hB, hmb]
 intro b hb
 simp only [go_sem, xP, xR, xS]
 refine SemC.loopK mixed B.length (fun k ρ σ' ds => ds = [] ∧ ρ 4 = str (bts B) ∧ ρ 5 = .v (.bool mb) ∧ ρ 15 = .v (.pointer (some ⟨b, 0, none⟩)) ∧ ρ 6 = int (decL (B.take k)) ∧ σ' = upd σ b (some (.obj (.stringIter (bts B) k))) ∧ (∀ x ∈ B.take k, isDig x = true) ∧ (0 < k → B.length ≤ 10)) (by kernel_rfl) ⟨rfl, rfl, rfl, rfl, rfl, rfl, by simp, by omega⟩ ?_
 rintro k ρ σ' ds hk ⟨rfl, h4, h5, h15, h6, rfl, hd, hm⟩
 rcases get_or_end B k hk with ⟨x, hx, hlt, _⟩ | hk
 ·have hk1 : k < (bts B).size := by rw [hsz]; exact hlt
  by_cases hlow : x.toNat < 128
  ·have hdec : Utf8.decode (bts B) k = (x.toNat, 1) := by
    have := decode_ascii (bts B) k hk1 (by rw [bts_at hx]; exact hlow)
    rw [this, bts_at hx]
   by_cases h1 : (x.toNat : Int) < 48
   ·simp only [go_sem, xP, xR, xS, h4, h5, h15, h6, hk1, hdec, h1]
    rw [bad (.inr (.inr (.inl fun h => by have := h x (List.mem_of_getElem? hx); rw [dig_no (.inl h1)] at this; cases this)))]
    exact retP_drop (by repeat (first | exact Drop.refl _ | assumption | refine Drop.upd ?_ (by assumption))) (rfl)
   by_cases h2 : (57 : Int) < x.toNat
   ·simp only [go_sem, xP, xR, xS, h4, h5, h15, h6, hk1, hdec, h1, h2]
    rw [bad (.inr (.inr (.inl fun h => by have := h x (List.mem_of_getElem? hx); rw [dig_no (.inr h2)] at this; cases this)))]
    exact retP_drop (by repeat (first | exact Drop.refl _ | assumption | refine Drop.upd ?_ (by assumption))) (rfl)
   by_cases h3 : (10 : Int) < (bts B).size
   ·simp only [go_sem, xP, xR, xS, h4, h5, h15, h6, hk1, hdec, h1, h2, h3]
    rw [bad (.inr (.inl (by omega)))]
    exact retP_drop (by repeat (first | exact Drop.refl _ | assumption | refine Drop.upd ?_ (by assumption))) (rfl)
   obtain ⟨d0, d1⟩ := decL_bound _ hd
   have hpw : (10 : Int) ^ (B.take k).length ≤ 10000000000000 := pow_13 _ (by rw [List.length_take]; omega)
   have w1 : IntKind.i64.wrap (10 * decL (B.take k)) = 10 * decL (B.take k) := wrap_i64 _ (by omega) (by omega)
   have w2 : IntKind.i32.wrap ((x.toNat : Int) - 48) = (x.toNat : Int) - 48 := IntWalk.i32_in _ ⟨by omega, by omega⟩
   have w3 : IntKind.i64.wrap ((x.toNat : Int) - 48) = (x.toNat : Int) - 48 := wrap_i64 _ (by omega) (by omega)
   have w4 : IntKind.i64.wrap (10 * decL (B.take k) + ((x.toNat : Int) - 48)) = 10 * decL (B.take k) + ((x.toNat : Int) - 48) := wrap_i64 _ (by omega) (by omega)
   simp only [go_sem, xP, xR, xS, h4, h5, h15, h6, hk1, hdec, h1, h2, h3, w1, w2, w3, w4, u3, Option.isSome_some]
   refine ⟨hlt, by rw [take_succ hx, decL_snoc], fun y hy => ?_, fun _ => by omega⟩
   rw [take_succ hx] at hy
   rcases List.mem_append.1 hy with hy | hy
   ·exact hd y hy
   ·rw [List.mem_singleton.1 hy]
    exact dig_iff h1 h2
  ·obtain ⟨r, wd, hdec⟩ : ∃ r wd, Utf8.decode (bts B) k = (r, wd) := ⟨_, _, rfl⟩
   have hr := (decode_high (bts B) k hk1 (by rw [bts_at hx]; omega)).1
   rw [hdec] at hr
   have h1 : ¬ (r : Int) < 48 := by omega
   have h2 : (57 : Int) < r := by omega
   simp only [go_sem, xP, xR, xS, h4, h5, h15, h6, hk1, hdec, h1, h2]
   rw [bad (.inr (.inr (.inl fun h => by have := h x (List.mem_of_getElem? hx); rw [dig_no (.inr (by omega))] at this; cases this)))]
   exact retP_drop (by repeat (first | exact Drop.refl _ | assumption | refine Drop.upd ?_ (by assumption))) (rfl)
 ·have htk : B.take k = B := by rw [hk, List.take_length]
  rw [htk] at h6 hd
  have hk1 : ¬ k < (bts B).size := by omega
  cases B with
  | nil =>
   simp only [go_sem, xP, xR, xS, h4, h5, h15, h6, hk1, bts_nil]
   rw [bad (.inl rfl)]
   exact retP_drop (by repeat (first | exact Drop.refl _ | assumption | refine Drop.upd ?_ (by assumption))) (rfl)
  | cons y B =>
   have hm' := hm (by rw [hk]; simp)
   have g0 : (0 : Int) < ((bts (y :: B)).size : Int) := by rw [hsz]; simp
   have hne := bts_ne (B := y :: B) (by simp)
   have gn : 0 < (bts (y :: B)).size := by omega
   obtain ⟨d0, d1⟩ := decL_bound _ hd
   have hpw : (10 : Int) ^ (y :: B).length ≤ 10000000000000 := pow_13 _ (by omega)
   have w5 : IntKind.i64.wrap (0 - decL (y :: B)) = -decL (y :: B) := by rw [Int.zero_sub]; exact wrap_i64 _ (by omega) (by omega)
   by_cases h1 : (y.toNat : Int) = 48
   ·have hy := u8_48 h1
    by_cases h2 : (1 : Int) < ((bts (y :: B)).size : Int)
    ·simp only [go_sem, xP, xR, xS, h4, h5, h15, h6, hk1, hne, gn, bts_head, h1, h2]
     rw [bad (.inr (.inr (.inr ⟨by rw [hy]; rfl, .inl (by omega)⟩)))]
     exact retP_drop (by repeat (first | exact Drop.refl _ | assumption | refine Drop.upd ?_ (by assumption))) (rfl)
    ·cases mb with
     | true =>
      simp only [go_sem, xP, xR, xS, h4, h5, h15, h6, hk1, hne, gn, bts_head, h1, h2]
      rw [bad (.inr (.inr (.inr ⟨by rw [hy]; rfl, .inr rfl⟩)))]
      exact retP_drop (by repeat (first | exact Drop.refl _ | assumption | refine Drop.upd ?_ (by assumption))) (rfl)
     | false =>
      simp only [go_sem, xP, xR, xS, h4, h5, h15, h6, hk1, hne, gn, bts_head, h1, h2]
      rw [good (by
       rintro (h | h | h | ⟨_, h | h⟩)
       ·cases h
       ·omega
       ·exact h hd
       ·omega
       ·cases h)]
      exact retP_drop (by repeat (first | exact Drop.refl _ | assumption | refine Drop.upd ?_ (by assumption))) (rfl)
   ·have hgood : ¬ ((y :: B) = [] ∨ 10 < (y :: B).length ∨ ¬ (∀ b ∈ (y :: B), isDig b = true) ∨ ((y :: B).head? = some 48 ∧ (1 < (y :: B).length ∨ mb = true))) := by
     rintro (h | h | h | ⟨h, _⟩)
     ·cases h
     ·omega
     ·exact h hd
     ·exact h1 (by have h : y = 48 := Option.some.inj h; rw [h]; rfl)
    cases mb with
    | true =>
     simp only [go_sem, xP, xR, xS, h4, h5, h15, h6, hk1, hne, gn, bts_head, h1, w5]
     rw [good hgood]
     exact retP_drop (by repeat (first | exact Drop.refl _ | assumption | refine Drop.upd ?_ (by assumption))) (rfl)
    | false =>
     simp only [go_sem, xP, xR, xS, h4, h5, h15, h6, hk1, hne, gn, bts_head, h1]
     rw [good hgood]
     exact retP_drop (by repeat (first | exact Drop.refl _ | assumption | refine Drop.upd ?_ (by assumption))) (rfl)
def slW (W : List (List UInt8)) : AV := slStr (W.map bts)
theorem strs_get {W : List (List UInt8)} {k : Nat} {w : List UInt8} (h : W[k]? = some w) : (strs (W.map bts))[k]? = some (str (bts w)) := by
 rw [strs, List.map_map, List.getElem?_map, h]; rfl
noncomputable def intsR (m : Nat) (W : List (List UInt8)) : AV := .tup [slI ((intsO m W).getD []), .v (.bool (intsO m W).isSome)]
set_option maxHeartbeats 1000000 in
theorem f197 (W : List (List UInt8)) (hW : W.length ≤ 1000000) (hw : ∀ w ∈ W, w.length ≤ 1000000) : PCalls Tryz.prog Γ 197 [slW W] (intsR 13 W) := by
 have hWl : (W.map bts).length = W.length := List.length_map _
 refine pcalls (ok197 Γ) fun σ => ?_
 simp only [go_sem, xP, xR, xS, Tryz.f197, slW, slStr, hWl]
 refine SemC.loopK mixed W.length (fun k ρ σ' ds => ds = [] ∧ (ρ 9 = slW W ∧ ρ 10 = int W.length) ∧ ρ 11 = int k ∧ Drop σ' σ ∧ ∃ acc, intsO 13 (W.take k) = some acc ∧ Grow σ σ' 1 (ρ 4) (ints acc) k) (by kernel_rfl) ⟨rfl, by simp only [go_sem, xP, xR, xS, slW, slStr, hWl], rfl, Drop.refl _, [], rfl, .nil _ _ _⟩ ?_
 rintro k ρ σ' ds hk ⟨rfl, H, h11, hD, acc, hacc, hG⟩
 rcases get_or_end W k hk with ⟨w, hx, hlt, hd⟩ | hk
 ·have hwx := strs_get hx
  have hwl := hw w (mem_of_get hx)
  obtain ⟨a, ha⟩ : ∃ a, ρ 4 = a := ⟨_, rfl⟩
  rw [ha] at hG
  simp only [go_sem, xP, xR, xS, H, h11, hWl, hlt, slW, slStr, hwx]
  refine callB_use (f247 (bts w) (by rw [bts_size]; exact hwl)) rfl ?_
  simp only [go_sem, xP, xR, xS, H, h11, hWl, intR, bts_data]
  cases hn : intO 13 w with
  | none =>
   have hno : intsO 13 W = none := by
    have e := List.take_append_drop k W
    rw [hd] at e
    rw [← e]
    exact intsO_none 13 w _ _ hn
   simp only [go_sem, xP, xR, xS, H, h11, hWl, intsR, hno, Option.getD_none, Option.isSome_none]
   exact ⟨.tup (.cons .nil (.cons (.refl _) .nil)), hD⟩
  | some n =>
   simp only [go_sem, xP, xR, xS, H, h11, hWl, Option.getD_some, Option.isSome_some, ha]
   refine appB_sl (appT_sl el46 tk3 by3 el46 (by decide) rfl (by decide)) hD hG rfl rfl (by omega) (fun a' σ2 hD2 hO hG2 => ?_)
   simp only [go_sem, xP, xR, xS, H, h11, hWl]
   refine ⟨hlt, by rw [wrap_succ _ (by omega)], hD2, acc ++ [n], by rw [take_succ hx, intsO_snoc, hacc, hn], ?_⟩
   simpa [ints, int] using hG2
 ·subst hk
  rw [List.take_length] at hacc
  have hlen := intsO_len 13 W acc hacc
  simp only [go_sem, xP, xR, xS, H, h11, hWl, Nat.lt_irrefl, slW, slStr, List.length_map, intsR, hacc, Option.getD_some, Option.isSome_some]
  rw [← hlen] at hG
  exact ⟨.tup (.cons (hG.retP hD).1 (.cons (.refl _) .nil)), hD⟩
set_option maxHeartbeats 1000000 in
theorem f241 (W : List (List UInt8)) (hW : W.length ≤ 1000000) (hw : ∀ w ∈ W, w.length ≤ 1000000) : PCalls Tryz.prog Γ 241 [slW W] (intsR 10 W) := by
 have hWl : (W.map bts).length = W.length := List.length_map _
 refine pcalls (ok241 Γ) fun σ => ?_
 simp only [go_sem, xP, xR, xS, Tryz.f241, slW, slStr, hWl]
 refine SemC.loopK mixed W.length (fun k ρ σ' ds => ds = [] ∧ (ρ 9 = slW W ∧ ρ 10 = int W.length) ∧ ρ 11 = int k ∧ Drop σ' σ ∧ ∃ acc, intsO 10 (W.take k) = some acc ∧ Grow σ σ' 1 (ρ 4) (ints acc) k) (by kernel_rfl) ⟨rfl, by simp only [go_sem, xP, xR, xS, slW, slStr, hWl], rfl, Drop.refl _, [], rfl, .nil _ _ _⟩ ?_
 rintro k ρ σ' ds hk ⟨rfl, H, h11, hD, acc, hacc, hG⟩
 rcases get_or_end W k hk with ⟨w, hx, hlt, hd⟩ | hk
 ·have hwx := strs_get hx
  have hwl := hw w (mem_of_get hx)
  obtain ⟨a, ha⟩ : ∃ a, ρ 4 = a := ⟨_, rfl⟩
  rw [ha] at hG
  simp only [go_sem, xP, xR, xS, H, h11, hWl, hlt, slW, slStr, hwx]
  refine callB_use (f264 (bts w) (by rw [bts_size]; exact hwl)) rfl ?_
  simp only [go_sem, xP, xR, xS, H, h11, hWl, intR, bts_data]
  cases hn : intO 10 w with
  | none =>
   have hno : intsO 10 W = none := by
    have e := List.take_append_drop k W
    rw [hd] at e
    rw [← e]
    exact intsO_none 10 w _ _ hn
   simp only [go_sem, xP, xR, xS, H, h11, hWl, intsR, hno, Option.getD_none, Option.isSome_none]
   exact ⟨.tup (.cons .nil (.cons (.refl _) .nil)), hD⟩
  | some n =>
   simp only [go_sem, xP, xR, xS, H, h11, hWl, Option.getD_some, Option.isSome_some, ha]
   refine appB_sl (appT_sl el46 tk3 by3 el46 (by decide) rfl (by decide)) hD hG rfl rfl (by omega) (fun a' σ2 hD2 hO hG2 => ?_)
   simp only [go_sem, xP, xR, xS, H, h11, hWl]
   refine ⟨hlt, by rw [wrap_succ _ (by omega)], hD2, acc ++ [n], by rw [take_succ hx, intsO_snoc, hacc, hn], ?_⟩
   simpa [ints, int] using hG2
 ·subst hk
  rw [List.take_length] at hacc
  have hlen := intsO_len 10 W acc hacc
  simp only [go_sem, xP, xR, xS, H, h11, hWl, Nat.lt_irrefl, slW, slStr, List.length_map, intsR, hacc, Option.getD_some, Option.isSome_some]
  rw [← hlen] at hG
  exact ⟨.tup (.cons (hG.retP hD).1 (.cons (.refl _) .nil)), hD⟩
def lineC : Blk → Prop := fun x => ∃ s, x = .row [str s] 1 1
theorem line_ctl : ∀ x, lineC x → ¬ Ctl x := fun x ⟨s, h⟩ k => by subst h; exact k
def lineE (b : Nat) : Nat → Blk → Prop := fun b' x => b' = b ∧ lineC x
theorem f185 (s : ByteArray) (σ : Sig) (K : AV → Sig → Prop) (hK : ∀ b, σ b = none → K (.fn (.func 239) [] [.v (.pointer (some ⟨b, 0, none⟩))]) (upd σ b (some (.row [str s] 1 1)))) : ACalls Tryz.prog Γ 185 [str s] σ K := by
 refine acalls (ok185 Γ) ?_
 simp only [go_sem, xP, xR, xS, Tryz.f185, str]
 intro b hb
 simp only [go_sem, xP, xR, xS]
 exact hK b hb
theorem drop_cons {α : Type} {l m : List α} {k : Nat} {x : α} (h : l.drop k = x :: m) : l[k]? = some x ∧ l.drop (k + 1) = m := by
 have h1 : (l.drop k)[0]? = some x := by rw [h]; rfl
 rw [List.getElem?_drop] at h1
 exact ⟨h1, by rw [← List.tail_drop, h]; rfl⟩
def linesX (s : ByteArray) : List AV := (linesL s.data.toList).map fun l => str (bts l)
theorem f239 (s : ByteArray) (hs : s.size ≤ 1000000) (b : Nat) : IterB Tryz.prog Γ lineC (lineE b) 239 [] [.v (.pointer (some ⟨b, 0, none⟩))] (fun σ => σ b = some (.row [str s] 1 1)) (linesX s) := by
 intro yv σ0 I K hp hI hKs h0 hy hK
 refine acalls (ok239 Γ) ?_
 simp only [List.nil_append, List.cons_append]
 simp only [go_sem, xP, xR, xS, Tryz.f239]
 refine SemC.loopK mixed (linesX s).length (fun k ρ σ' ds => ds = [] ∧ ρ 0 = yv ∧ ρ 1 = .v (.pointer (some ⟨b, 0, none⟩)) ∧ I k σ' ∧ ∃ s' : ByteArray, s'.size ≤ 1000000 ∧ σ' b = some (.row [str s'] 1 1) ∧ (linesX s).drop k = linesX s') (by kernel_rfl) ⟨rfl, rfl, rfl, h0, s, hs, hp, rfl⟩ ?_
 rintro k ρ σ' ds hk ⟨rfl, h0', h1, hIk, s', hs', hb, hd⟩
 have hb' := hb
 simp only [str] at hb'
 have e := bts_of s'
 by_cases hz : (0 : Int) < s'.size
 ·have hne : s'.data.toList ≠ [] := fun h => by
   rw [Lib.size_eq, h] at hz
   simp at hz
  rcases indexByte_one 10 s'.data.toList with ⟨i1, i2⟩ | ⟨i, i1, x, y, i2, i3, i4⟩
  ·have hl : linesX s' = [str s'] := by rw [linesX, lines_none hne i2]; simp [bts_of]
   rw [hl] at hd
   obtain ⟨hx, hk'⟩ := drop_one hd
   simp only [go_sem, xP, xR, xS, h0', h1, hb', hz]
   refine callB_use (f240 s') rfl ?_
   simp only [go_sem, xP, xR, xS, h0', h1, hb', i1]
   refine callB_mono (fun r σ2 h => ?_) (hy k (str s') _ hx (hI k _ b _ (.inr ⟨_, hb, rfl, _, rfl⟩) hIk))
   obtain ⟨hkp, h⟩ := h
   have hb2 := hkp b _ (upd_same _ _ _) ⟨⟨#[]⟩, rfl⟩
   rcases h with ⟨rfl, h⟩ | ⟨rfl, h⟩
   ·simp only [go_sem, xP, xR, xS, h0', h1]
    exact ⟨by omega, h, ⟨#[]⟩, by decide, hb2, by rw [hk', List.drop_length]; rfl⟩
   ·simp only [go_sem, xP, xR, xS, h0', h1]
    exact h
  ·have hsz : s'.size = i + 1 + y.length := by rw [Lib.size_eq, i2]; simp [← i3]; omega
   have e1 : s'.extract 0 (i + 1) = bts (x ++ [10]) := by
    rw [ext_data, i2, ← i3]; rw [List.drop_zero, Nat.sub_zero, List.take_append, List.take_of_length_le (by omega)]; simp
   have e2 : s'.extract (i + 1) s'.size = bts y := by
    rw [ext_data, hsz, i2, ← i3]
    rw [List.drop_append, List.drop_eq_nil_of_le (by omega), List.nil_append, show x.length + 1 - x.length = 1 by omega]
    rw [List.drop_succ_cons, List.drop_zero, List.take_of_length_le (by omega)]
   have hl : linesX s' = str (bts (x ++ [10])) :: linesX (bts y) := by rw [linesX, linesX, i2, lines_hit i4]; rfl
   rw [hl] at hd
   obtain ⟨hx, hk'⟩ := drop_cons hd
   have hw : IntKind.i64.wrap ((i : Int) + 1) = ((i + 1 : Nat) : Int) := wrap_succ _ (by omega)
   have g0 : (0 : Int) ≤ i := by omega
   have g1 : ((i + 1 : Nat) : Int) ≤ s'.size := by omega
   have g2 : (0 : Int) ≤ ((i + 1 : Nat) : Int) := by omega
   simp only [go_sem, xP, xR, xS, h0', h1, hb', hz]
   refine callB_use (f240 s') rfl ?_
   simp only [go_sem, xP, xR, xS, h0', h1, hb', i1, g0, hw, g1, g2, e1, e2, Int.toNat_natCast]
   refine callB_mono (fun r σ2 h => ?_) (hy k _ _ hx (hI k _ b _ (.inr ⟨_, hb, rfl, _, rfl⟩) hIk))
   obtain ⟨hkp, h⟩ := h
   have hb2 := hkp b _ (upd_same _ _ _) ⟨_, rfl⟩
   rcases h with ⟨rfl, h⟩ | ⟨rfl, h⟩
   ·simp only [go_sem, xP, xR, xS, h0', h1]
    exact ⟨lt_of_getElem? hx, h, bts y, by rw [bts_size]; omega, hb2, hk'⟩
   ·simp only [go_sem, xP, xR, xS, h0', h1]
    exact h
 ·have hl : linesX s' = [] := by
   have : s'.data.toList = [] := by
    have : s'.data.toList.length = 0 := by rw [← Lib.size_eq]; omega
    exact List.eq_nil_of_length_eq_zero this
   rw [linesX, this]; rfl
  rw [hl] at hd
  have hk2 : k = (linesX s).length := by
   have := congrArg List.length hd
   rw [List.length_drop] at this
   simp at this
   omega
  subst hk2
  simp only [go_sem, xP, xR, xS, h0', h1, hb', hz]
  exact hK _ hIk
end Go.AL
