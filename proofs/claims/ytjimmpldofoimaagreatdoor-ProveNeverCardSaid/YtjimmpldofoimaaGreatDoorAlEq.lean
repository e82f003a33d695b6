import Derived.Test.YtjimmpldofoimaaGreatDoorAlBase
set_option linter.unusedVariables false
set_option linter.unusedSimpArgs false
namespace Go.AL
open Go.Proofs
theorem leafInt {x y : Value} {b : Bool} (h : leafEqV .int x y = some b) : ∃ k a c, x = .int k a ∧ y = .int k c ∧ b = (a == c) := by
 unfold leafEqV at h
 split at h
 ·rename_i k a k' b' _
  split at h
  ·rename_i e; subst e; simp only [Option.some.injEq] at h; exact ⟨k, a, b', rfl, rfl, h.symm⟩
  ·cases h
 ·exact absurd ‹LeafK.int = LeafK.bool› (by simp)
 ·exact absurd ‹LeafK.int = LeafK.str› (by simp)
 ·cases h
theorem leaves_cons {k : LeafK} {ks : List LeafK} {xs ys : List Value} {r : Bool} (h : leavesEqV (k :: ks) xs ys = some r) : ∃ x xs' y ys' a b, xs = x :: xs' ∧ ys = y :: ys' ∧ leafEqV k x y = some a ∧ leavesEqV ks xs' ys' = some b ∧ r = (a && b) := by
 cases xs with
 | nil => simp [leavesEqV] at h
 | cons x xs =>
  cases ys with
  | nil => simp [leavesEqV] at h
  | cons y ys =>
   simp only [leavesEqV] at h
   split at h
   ·rename_i a b h1 h2
    simp only [Option.some.injEq] at h
    exact ⟨x, xs, y, ys, a, b, rfl, rfl, h1, h2, h.symm⟩
   ·cases h
theorem leaves_nil {xs ys : List Value} {r : Bool} (h : leavesEqV [] xs ys = some r) : xs = [] ∧ ys = [] ∧ r = true := by
 cases xs with
 | nil =>
  cases ys with
  | nil => simp only [leavesEqV, Option.some.injEq] at h; exact ⟨rfl, rfl, h.symm⟩
  | cons y ys => simp [leavesEqV] at h
 | cons x xs => simp [leavesEqV] at h
theorem two_of {xs ys : List Value} {r : Bool} (h : leavesEqV [.int, .int] xs ys = some r) : ∃ k1 k2 a b c d, xs = [.int k1 a, .int k2 b] ∧ ys = [.int k1 c, .int k2 d] ∧ r = ((a == c) && (b == d)) := by
 obtain ⟨x, xs1, y, ys1, p, q, rfl, rfl, h1, g1, rfl⟩ := leaves_cons h
 obtain ⟨k1, a, c, rfl, rfl, rfl⟩ := leafInt h1
 obtain ⟨x, xs2, y, ys2, p2, q2, rfl, rfl, h2, g2, rfl⟩ := leaves_cons g1
 obtain ⟨k2, b, d, rfl, rfl, rfl⟩ := leafInt h2
 obtain ⟨rfl, rfl, rfl⟩ := leaves_nil g2
 exact ⟨k1, k2, a, b, c, d, rfl, rfl, by simp⟩
theorem eq_arr2 {P : Program} {w : World} {t e : TypeId} {z : List AV} {n : Nat} {k1 k2 : IntKind} {a b c d : Int} (h : P.underlying t = some (.array 2 e)) (hk : tkOf P e = some ⟨false, 1, z⟩)
  (hi : ∀ (k : IntKind) (a b : Int), (Op.equalIn n e (.int k a) (.int k b)).run P w = .ok (a == b) w) :
  (Op.equalIn (n + 1) t (.agg #[.int k1 a, .int k2 b]) (.agg #[.int k1 c, .int k2 d])).run P w = .ok ((a == c) && (b == d)) w := by
 have hagg := run_isAgg_tk hk
 have hsz := run_sizeOf_tk hk
 cases h1 : (a == c) <;> cases h2 : (b == d) <;>
  simp [Op.equalIn, run_underlying h, hsz, hagg, part, hi, h1, h2, Std.Legacy.Range.forIn_eq_forIn_range', List.range']
theorem aggEq_arr2 {P : Program} {t e : TypeId} {k : IntKind} {z : List AV} (h : P.underlying t = some (.array 2 e)) (he : P.underlying e = some (.int k)) (hk : tkOf P e = some ⟨false, 1, z⟩) (hg : P.eqGuardType P.depth t = false) : AggEq P t [.int, .int] := by
 refine ⟨hg, fun w xs ys r hr => ?_⟩
 obtain ⟨k1, k2, a, b, c, d, rfl, rfl, rfl⟩ := two_of hr
 exact eq_arr2 h hk fun k a b => run_equalIn_int w 9998 e k _ a b he
theorem eq_str2 {P : Program} {w : World} {t : TypeId} {f1 f2 : Field} {z1 z2 : List AV} {n : Nat} {k1 k2 : IntKind} {a b c d : Int} (h : P.underlying t = some (.struct #[f1, f2])) (hs : P.stoodInHeld t = false)
  (hn1 : f1.name ≠ "_") (hn2 : f2.name ≠ "_") (ho1 : f1.offset = 0) (ho2 : f2.offset = 1) (hk1 : tkOf P f1.type = some ⟨false, 1, z1⟩) (hk2 : tkOf P f2.type = some ⟨false, 1, z2⟩)
  (hi1 : ∀ (k : IntKind) (a b : Int), (Op.equalIn n f1.type (.int k a) (.int k b)).run P w = .ok (a == b) w) (hi2 : ∀ (k : IntKind) (a b : Int), (Op.equalIn n f2.type (.int k a) (.int k b)).run P w = .ok (a == b) w) :
  (Op.equalIn (n + 1) t (.agg #[.int k1 a, .int k2 b]) (.agg #[.int k1 c, .int k2 d])).run P w = .ok ((a == c) && (b == d)) w := by
 have hagg1 := run_isAgg_tk hk1
 have hagg2 := run_isAgg_tk hk2
 cases h1 : (a == c) <;> cases h2 : (b == d) <;>
  simp [Op.equalIn, run_underlying h, hs, hagg1, hagg2, part, hi1, hi2, h1, h2, hn1, hn2, ho1, ho2]
theorem aggEq_str2 {P : Program} {t : TypeId} {f1 f2 : Field} {k k' : IntKind} {z1 z2 : List AV} (h : P.underlying t = some (.struct #[f1, f2])) (hs : P.stoodInHeld t = false)
  (hn1 : f1.name ≠ "_") (hn2 : f2.name ≠ "_") (ho1 : f1.offset = 0) (ho2 : f2.offset = 1) (hk1 : tkOf P f1.type = some ⟨false, 1, z1⟩) (hk2 : tkOf P f2.type = some ⟨false, 1, z2⟩)
  (he1 : P.underlying f1.type = some (.int k)) (he2 : P.underlying f2.type = some (.int k')) (hg : P.eqGuardType P.depth t = false) : AggEq P t [.int, .int] := by
 refine ⟨hg, fun w xs ys r hr => ?_⟩
 obtain ⟨k1, k2, a, b, c, d, rfl, rfl, rfl⟩ := two_of hr
 exact eq_str2 h hs hn1 hn2 ho1 ho2 hk1 hk2 (fun k a b => run_equalIn_int w 9998 _ k _ a b he1) (fun k a b => run_equalIn_int w 9998 _ k _ a b he2)
theorem agg174 : AggEq Tryz.prog 174 [.int, .int] := aggEq_arr2 (elemOf_array el174) us3 tk3 (by kernel_rfl)
theorem agg234 : AggEq Tryz.prog 234 [.int, .int] := aggEq_arr2 (elemOf_array el234) us3 tk3 (by kernel_rfl)
theorem agg307 : AggEq Tryz.prog 307 [.int, .int] := aggEq_arr2 (elemOf_array el307) us3 tk3 (by kernel_rfl)
theorem agg91 : AggEq Tryz.prog 91 [.int, .int] := aggEq_str2 (fieldsOf_some fs91) (by kernel_rfl) (by decide) (by decide) rfl rfl tk3 tk3 us3 us3 (by kernel_rfl)
theorem lf174 : LfM 174 = [.int, .int] := nr rfl
theorem lf234 : LfM 234 = [.int, .int] := nr rfl
theorem lf307 : LfM 307 = [.int, .int] := nr rfl
theorem lf91 : LfM 91 = [.int, .int] := nr rfl
theorem leaves2 (k k2 : IntKind) (a b c d : Int) : leavesEq [.int, .int] [.v (.int k a), .v (.int k2 b)] [.v (.int k c), .v (.int k2 d)] = some (decide (a = c) && decide (b = d)) := by
 simp [leavesEq, leafEq]
 cases h1 : decide (a = c) <;> cases h2 : decide (b = d) <;> simp_all
attribute [go_sem] agg174 agg234 agg307 agg91 lf174 lf234 lf307 lf91 leaves2
end Go.AL
