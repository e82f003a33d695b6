import Derived.Test.YtjimmpldofoimaaGreatDoorAlRules
set_option linter.unusedVariables false
set_option linter.unusedSimpArgs false
namespace Go.AL
open Go.Proofs
theorem appT_sl {P : Program} {t0 t1 e e1 : TypeId} {k : TK} {bytes : Nat} (h : elemOf P t0 = some (none, e)) (hk : tkOf P e = some k) (hb : P.bytesOf e = bytes) (h1 : elemOf P t1 = some (none, e1)) (hs : k.size ≠ 0) (hz : k.zero.length = k.size) (hp : 0 < bytes) : AppT P t0 t1 k bytes := by
 refine ⟨?_, ⟨_, elemOf_slice h1, by simp⟩, hs, hz, hp⟩
 obtain ⟨i, d, z, hi, hd, hz, rfl⟩ := tkOf_some hk
 refine ⟨e, i, elemOf_slice h, hk, hi, ?_⟩
 rw [← hb]
 simp [Program.bytesOf, hi]
def int (n : Int) : AV := .v (.int .i64 n)
def ints (l : List Int) : List AV := l.map int
def slI (l : List Int) : AV := .sl (ints l) l.length
structure Tm where
 coeffs : List Int
 const : Int
 deriving DecidableEq, Inhabited
def tmC (t : Tm) : List AV := [slI t.coeffs, int t.const]
def slT (l : List Tm) : AV := .sl (l.flatMap tmC) l.length
theorem tmC_len (t : Tm) : (tmC t).length = 2 := rfl
theorem ints_len (l : List Int) : (ints l).length = l.length := by simp [ints]
theorem ints_get (l : List Int) (k : Nat) : (ints l)[k]? = (l[k]?).map int := by simp [ints]
theorem one_sl (cs : List AV) (n : Nat) : (AV.sl cs n).one = true := nr rfl
theorem one_own (b s o n : Nat) : (AV.own b s o n).one = true := nr rfl
theorem one_fn (f : Fn) (a b : List AV) : (AV.fn f a b).one = true := nr rfl
theorem one_int (k : IntKind) (n : Int) : (AV.v (.int k n)).one = true := nr rfl
theorem one_bool (b : Bool) : (AV.v (.bool b)).one = true := nr rfl
theorem one_string (b : ByteArray) : (AV.v (.string b)).one = true := nr rfl
theorem one_slice (a : Option Addr) (n c : Nat) : (AV.v (.slice a n c)).one = true := nr rfl
attribute [go_sem] one_sl one_own one_fn one_int one_bool one_string one_slice List.all_cons List.all_nil Bool.and_true Bool.true_and Bool.and_self Nat.le_refl
attribute [go_sem] Int.ofNat_lt Int.natCast_nonneg true_and and_true and_self decide_true decide_false Int.toNat_natCast Nat.mul_one List.getElem?_map Option.map_some Bool.not_true Bool.not_false Int.le_refl Int.cast_ofNat_Int Int.zero_le_ofNat Int.toNat_zero Int.toNat_one Nat.zero_mul decide_eq_true_eq Nat.zero_add Nat.add_zero Bool.false_eq_true ints_get int
end Go.AL
