import Derived.Test.YtjimmpldofoimaaGreatDoorAlOps
import Derived.Laws.StructEq
import Derived.Laws.Strings
set_option linter.unusedVariables false
set_option linter.unusedSimpArgs false
namespace Go.AL
def Calm (w w' : World) : Prop := ∀ (Γ : Glob) (σ : Sig), Rel Γ w σ → Rel Γ w' σ ∧ Ext w σ w' σ
theorem Calm.refl (w : World) : Calm w w := fun _ _ h => ⟨h, Ext.refl _ _⟩
theorem Calm.trans {w w1 w2 : World} (h : Calm w w1) (k : Calm w1 w2) : Calm w w2 := fun Γ σ r => by
 obtain ⟨r1, e1⟩ := h Γ σ r
 obtain ⟨r2, e2⟩ := k Γ σ r1
 exact ⟨r2, e1.trans e2⟩
theorem Calm.push (w : World) (o : Obj) : Calm w { w with heap := w.heap.push o } := fun _ _ r => ⟨r.allocPure o, Ext.allocPure o⟩
theorem Calm.drew (w : World) (n : Nat) : Calm w { w with drawn := n } := fun _ _ r => ⟨r.of_heap rfl rfl rfl rfl, Ext.of_heap rfl rfl rfl rfl⟩
inductive LeafK where
 | int | bool | str
 deriving DecidableEq
def leafEqV : LeafK → Value → Value → Option Bool
 | .int, .int k a, .int k' b => if k = k' then some (a == b) else none
 | .bool, .bool a, .bool b => some (a == b)
 | .str, .string a, .string b => some (a.toList == b.toList)
 | _, _, _ => none
def leavesEqV : List LeafK → List Value → List Value → Option Bool
 | [], [], [] => some true
 | k :: ks, x :: xs, y :: ys =>
  match leafEqV k x y, leavesEqV ks xs ys with
  | some a, some b => some (a && b)
  | _, _ => none
 | _, _, _ => none
def leafEq : LeafK → AV → AV → Option Bool
 | .int, .v (.int k a), .v (.int k' b) => if k = k' then some (a == b) else none
 | .bool, .v (.bool a), .v (.bool b) => some (a == b)
 | .str, .v (.string a), .v (.string b) => some (a.toList == b.toList)
 | _, _, _ => none
def leavesEq : List LeafK → List AV → List AV → Option Bool
 | [], [], [] => some true
 | k :: ks, x :: xs, y :: ys =>
  match leafEq k x y, leavesEq ks xs ys with
  | some a, some b => some (a && b)
  | _, _ => none
 | _, _, _ => none
theorem leafEq_rep {w : World} {σ : Sig} {k : LeafK} {x y : AV} {u v : Value} {r : Bool} (h : leafEq k x y = some r) (hx : Rep w σ x u) (hy : Rep w σ y v) : leafEqV k u v = some r := by
 unfold leafEq at h
 split at h <;> first
  | (cases hx; cases hy; exact h)
  | cases h
theorem leavesEq_rep {w : World} {σ : Sig} : ∀ {ks : List LeafK} {xs ys : List AV} {us vs : List Value} {r : Bool}, leavesEq ks xs ys = some r → Reps w σ xs us → Reps w σ ys vs → leavesEqV ks us vs = some r
 | [], [], [], _, _, _, h, .nil, .nil => h
 | k :: ks, x :: xs, y :: ys, _, _, r, h, .cons h1 h2, .cons k1 k2 => by
  simp only [leavesEq] at h
  split at h
  ·rename_i a b ha hb
   simp only [leavesEqV, leafEq_rep ha h1 k1, leavesEq_rep hb h2 k2]
   exact h
  ·cases h
structure AggEq (P : Program) (t : TypeId) (ks : List LeafK) : Prop where
 guard : P.eqGuardType P.depth t = false
 eq : ∀ (w : World) (xs ys : List Value) (r : Bool), leavesEqV ks xs ys = some r → (Op.equalIn 10000 t (.agg xs.toArray) (.agg ys.toArray)).run P w = .ok r w
def binA (P : Program) (Lf : TypeId → List LeafK) (op : BinOp) (t : TypeId) (x y : AV) (K : AV → Prop) : Prop :=
 match op with
 | .add =>
  match x, y with
  | .v (.int k a), .v (.int k' b) => k = k' ∧ K (.v (.int k (k.wrap (a + b))))
  | .v (.string a), .v (.string b) => a.size + b.size ≤ 9223372036854775807 ∧ K (.v (.string (a ++ b)))
  | _, _ => False
 | .sub =>
  match x, y with
  | .v (.int k a), .v (.int k' b) => k = k' ∧ K (.v (.int k (k.wrap (a - b))))
  | _, _ => False
 | .mul =>
  match x, y with
  | .v (.int k a), .v (.int k' b) => k = k' ∧ K (.v (.int k (k.wrap (a * b))))
  | _, _ => False
 | .quo =>
  match x, y with
  | .v (.int k a), .v (.int k' b) => k = k' ∧ b ≠ 0 ∧ K (.v (.int k (k.wrap (a.tdiv b))))
  | _, _ => False
 | .rem =>
  match x, y with
  | .v (.int k a), .v (.int k' b) => k = k' ∧ b ≠ 0 ∧ K (.v (.int k (a.tmod b)))
  | _, _ => False
 | .and =>
  match x, y with
  | .v (.int k a), .v (.int k' b) => k = k' ∧ K (.v (.int k (k.wrap (BitVec.ofInt k.bits a &&& BitVec.ofInt k.bits b).toNat)))
  | _, _ => False
 | .or =>
  match x, y with
  | .v (.int k a), .v (.int k' b) => k = k' ∧ K (.v (.int k (k.wrap (BitVec.ofInt k.bits a ||| BitVec.ofInt k.bits b).toNat)))
  | _, _ => False
 | .shl =>
  match x, y with
  | .v (.int k a), .v (.int k' b) => 0 ≤ b ∧ K (.v (.int k (k.wrap (a * 2 ^ (min b.toNat k.bits)))))
  | _, _ => False
 | .shr =>
  match x, y with
  | .v (.int k a), .v (.int k' b) => 0 ≤ b ∧ K (.v (.int k (a.fdiv (2 ^ (min b.toNat k.bits)))))
  | _, _ => False
 | .lss =>
  match x, y with
  | .v (.int k a), .v (.int k' b) => k = k' ∧ K (.v (.bool (decide (a < b))))
  | .v (.string a), .v (.string b) => K (.v (.bool (Go.Op.bytesLess a.toList b.toList)))
  | _, _ => False
 | .leq =>
  match x, y with
  | .v (.int k a), .v (.int k' b) => k = k' ∧ K (.v (.bool (decide (a ≤ b))))
  | _, _ => False
 | .gtr =>
  match x, y with
  | .v (.int k a), .v (.int k' b) => k = k' ∧ K (.v (.bool (decide (b < a))))
  | .v (.string a), .v (.string b) => K (.v (.bool (!(Go.Op.bytesLess a.toList b.toList || a.toList == b.toList))))
  | _, _ => False
 | .geq =>
  match x, y with
  | .v (.int k a), .v (.int k' b) => k = k' ∧ K (.v (.bool (decide (b ≤ a))))
  | _, _ => False
 | .eql =>
  match x, y with
  | .v (.int k a), .v (.int k' b) => k = k' ∧ K (.v (.bool (decide (a = b))))
  | .v (.string a), .v (.string b) => K (.v (.bool (a.toList == b.toList)))
  | .v (.bool a), .v (.bool b) => P.underlying t = some .bool ∧ K (.v (.bool (a == b)))
  | .v (.slice none 0 0), .v (.slice none 0 0) => (∃ e, P.underlying t = some (.slice e)) ∧ K (.v (.bool true))
  | .v (.slice (some _) _ _), .v (.slice none 0 0) => (∃ e, P.underlying t = some (.slice e)) ∧ K (.v (.bool false))
  | .own _ _ _ _, .v (.slice none 0 0) => (∃ e, P.underlying t = some (.slice e)) ∧ K (.v (.bool false))
  | .sl cs n, .v (.slice none 0 0) => (∃ e, P.underlying t = some (.slice e)) ∧ cs ≠ [] ∧ K (.v (.bool false))
  | .agg xs, .agg ys => AggEq P t (Lf t) ∧ ∃ r, leavesEq (Lf t) xs ys = some r ∧ K (.v (.bool r))
  | _, _ => False
 | .neq =>
  match x, y with
  | .v (.int k a), .v (.int k' b) => k = k' ∧ K (.v (.bool (!decide (a = b))))
  | .v (.string a), .v (.string b) => K (.v (.bool (!(a.toList == b.toList))))
  | .v (.bool a), .v (.bool b) => P.underlying t = some .bool ∧ K (.v (.bool (!(a == b))))
  | .v (.slice none 0 0), .v (.slice none 0 0) => (∃ e, P.underlying t = some (.slice e)) ∧ K (.v (.bool false))
  | .v (.slice (some _) _ _), .v (.slice none 0 0) => (∃ e, P.underlying t = some (.slice e)) ∧ K (.v (.bool true))
  | .own _ _ _ _, .v (.slice none 0 0) => (∃ e, P.underlying t = some (.slice e)) ∧ K (.v (.bool true))
  | .sl cs n, .v (.slice none 0 0) => (∃ e, P.underlying t = some (.slice e)) ∧ cs ≠ [] ∧ K (.v (.bool true))
  | .agg xs, .agg ys => AggEq P t (Lf t) ∧ ∃ r, leavesEq (Lf t) xs ys = some r ∧ K (.v (.bool (!r)))
  | _, _ => False
 | _ => False
theorem i64max_val : IntKind.i64.max = 9223372036854775807 := by decide
section
variable {P : Program} {w : World} {t : TypeId}
theorem run_eqlB {u v : Value} {r : Bool} (h : (Op.equalIn 10000 t u v).run P w = .ok r w) (hb : binOp .eql t u v = (do pure (.bool (← Op.equal t u v)))) : (binOp .eql t u v).run P w = .ok (.bool r) w := by
 rw [hb]; simp [Op.equal, Op.maxDepth, h]
theorem run_neqB {u v : Value} {r : Bool} (h : (Op.equalIn 10000 t u v).run P w = .ok r w) (hb : binOp .neq t u v = (do pure (.bool (!(← Op.equal t u v))))) : (binOp .neq t u v).run P w = .ok (.bool (!r)) w := by
 rw [hb]; simp [Op.equal, Op.maxDepth, h]
theorem eqIn_bool (a b : Bool) (hu : P.underlying t = some .bool) : (Op.equalIn 10000 t (.bool a) (.bool b)).run P w = .ok (a == b) w := run_equalIn_bool w 9999 t a b hu
theorem eqIn_slice_nil' (d : Nat) {e : TypeId} (b : Option Addr) (n c n' c' : Nat) (hu : P.underlying t = some (.slice e)) : (Op.equalIn (d + 1) t (.slice b n c) (.slice none n' c')).run P w = .ok b.isNone w := by
 cases b <;> simp [Op.equalIn, run_underlying hu]
theorem eqIn_slice_nil {e : TypeId} (b : Option Addr) (n c n' c' : Nat) (hu : P.underlying t = some (.slice e)) : (Op.equalIn 10000 t (.slice b n c) (.slice none n' c')).run P w = .ok b.isNone w := eqIn_slice_nil' 9999 b n c n' c' hu
theorem guard_calm {op : BinOp} {xo yo : Operand} {u v : Value} (h : ∀ a b, ¬ (u = .agg a ∧ v = .agg b)) (h' : ¬ (u = .nilIface ∧ v = .nilIface)) : (eqGuard op t xo yo u v).run P w = .ok () w := by
 unfold eqGuard
 cases op <;> simp <;> (split <;> first
  | exact absurd ⟨rfl, rfl⟩ h'
  | exact absurd ⟨rfl, rfl⟩ (h _ _)
  | rfl)
end
theorem bin_end {P : Program} {op : BinOp} {t : TypeId} {xo yo : Operand} {u v z : Value} {w : World} (hg : (eqGuard op t xo yo u v).run P w = .ok () w) (h : (binOp op t u v).run P w = .ok z w) :
  (do eqGuard op t xo yo u v; binOp op t u v : Sem Value).run P w = .ok z w := by
 simp only [Sem.run_bind, hg, Result.andThen_ok, h]
theorem binA_ok {P : Program} {Lf : TypeId → List LeafK} {op : BinOp} {t : TypeId} {xo yo : Operand} {x y : AV} {u v : Value} {K : AV → Prop} {w : World} {σ : Sig}
  (hx : Rep w σ x u) (hy : Rep w σ y v) (h : binA P Lf op t x y K) :
  ∃ z r, (do eqGuard op t xo yo u v; binOp op t u v : Sem Value).run P w = .ok z w ∧ Rep w σ r z ∧ K r := by
 unfold binA at h
 cases op <;> (try exact h.elim) <;> dsimp only at h <;> (split at h <;> (try exact h.elim))
 all_goals (first
  | (cases hx <;> cases hy)
  | (cases hy <;> cases hx)
  | skip)
 all_goals (first
  | (obtain ⟨rfl, hb, hK⟩ := h; exact ⟨_, _, bin_end (guard_calm (by simp) (by simp)) (by simp [binOp, Op.intDiv, hb]), .v _, hK⟩)
  | (obtain ⟨rfl, hK⟩ := h; exact ⟨_, _, bin_end (guard_calm (by simp) (by simp)) (by simp only [binOp, Op.intArith, Op.intCmp, Op.intBits]; simp; try rfl), .v _, hK⟩)
  | skip)
 ·obtain ⟨hb, hK⟩ := h
  exact ⟨_, _, bin_end (guard_calm (by simp) (by simp)) (by simp only [binOp, Op.stringOp]; rw [i64max_val]; simp; omega), .v _, hK⟩
 ·obtain ⟨hb, hK⟩ := h
  exact ⟨_, _, bin_end (guard_calm (by simp) (by simp)) (by simp [binOp, Op.shift, Int.not_lt.2 hb]), .v _, hK⟩
 ·obtain ⟨hb, hK⟩ := h
  exact ⟨_, _, bin_end (guard_calm (by simp) (by simp)) (by simp [binOp, Op.shift, Int.not_lt.2 hb]), .v _, hK⟩
 ·exact ⟨_, _, bin_end (guard_calm (by simp) (by simp)) (by simp [binOp, Op.stringOp]), .v _, h⟩
 ·obtain ⟨hu, hK⟩ := h
  exact ⟨_, _, bin_end (guard_calm (by simp) (by simp)) (run_eqlB (eqIn_bool _ _ hu) rfl), .v _, hK⟩
 ·obtain ⟨⟨e, hu⟩, hK⟩ := h
  exact ⟨_, _, bin_end (guard_calm (by simp) (by simp)) (run_eqlB (eqIn_slice_nil _ _ _ _ _ hu) rfl), .v _, hK⟩
 ·obtain ⟨⟨e, hu⟩, hK⟩ := h
  exact ⟨_, _, bin_end (guard_calm (by simp) (by simp)) (run_eqlB (eqIn_slice_nil _ _ _ _ _ hu) rfl), .v _, hK⟩
 ·obtain ⟨⟨e, hu⟩, hK⟩ := h
  exact ⟨_, _, bin_end (guard_calm (by simp) (by simp)) (run_eqlB (eqIn_slice_nil _ _ _ _ _ hu) rfl), .v _, hK⟩
 ·obtain ⟨_, hne, hK⟩ := h
  exact absurd rfl hne
 ·obtain ⟨⟨e, hu⟩, hne, hK⟩ := h
  exact ⟨_, _, bin_end (guard_calm (by simp) (by simp)) (run_eqlB (eqIn_slice_nil _ _ _ _ _ hu) rfl), .v _, hK⟩
 ·rename_i hx _ hy
  obtain ⟨he, r, hr, hK⟩ := h
  exact ⟨_, _, bin_end (run_eqGuard_agg w _ t xo yo _ _ he.guard) (run_eqlB (he.eq w _ _ _ (leavesEq_rep hr hx hy)) rfl), .v _, hK⟩
 ·exact ⟨_, _, bin_end (guard_calm (by simp) (by simp)) (by simp [binOp, Op.stringOp]), .v _, h⟩
 ·obtain ⟨hu, hK⟩ := h
  exact ⟨_, _, bin_end (guard_calm (by simp) (by simp)) (run_neqB (eqIn_bool _ _ hu) rfl), .v _, hK⟩
 ·obtain ⟨⟨e, hu⟩, hK⟩ := h
  exact ⟨_, _, bin_end (guard_calm (by simp) (by simp)) (run_neqB (eqIn_slice_nil _ _ _ _ _ hu) rfl), .v _, hK⟩
 ·obtain ⟨⟨e, hu⟩, hK⟩ := h
  exact ⟨_, _, bin_end (guard_calm (by simp) (by simp)) (run_neqB (eqIn_slice_nil _ _ _ _ _ hu) rfl), .v _, hK⟩
 ·obtain ⟨⟨e, hu⟩, hK⟩ := h
  exact ⟨_, _, bin_end (guard_calm (by simp) (by simp)) (run_neqB (eqIn_slice_nil _ _ _ _ _ hu) rfl), .v _, hK⟩
 ·obtain ⟨_, hne, hK⟩ := h
  exact absurd rfl hne
 ·obtain ⟨⟨e, hu⟩, hne, hK⟩ := h
  exact ⟨_, _, bin_end (guard_calm (by simp) (by simp)) (run_neqB (eqIn_slice_nil _ _ _ _ _ hu) rfl), .v _, hK⟩
 ·rename_i hx _ hy
  obtain ⟨he, r, hr, hK⟩ := h
  exact ⟨_, _, bin_end (run_eqGuard_agg w _ t xo yo _ _ he.guard) (run_neqB (he.eq w _ _ _ (leavesEq_rep hr hx hy)) rfl), .v _, hK⟩
 ·exact ⟨_, _, bin_end (guard_calm (by simp) (by simp)) (by simp [binOp, Op.stringOp]), .v _, h⟩
 ·exact ⟨_, _, bin_end (guard_calm (by simp) (by simp)) (by simp [binOp, Op.stringOp]), .v _, h⟩
end Go.AL
