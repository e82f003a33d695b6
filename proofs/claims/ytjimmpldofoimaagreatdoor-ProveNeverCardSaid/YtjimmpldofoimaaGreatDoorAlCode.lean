import Derived.Test.YtjimmpldofoimaaGreatDoorAlAopOk
import Derived.OrdersIn
import Derived.Scope
set_option linter.unusedVariables false
set_option linter.unusedSimpArgs false
namespace Go.AL
def aguard (all : List Oper) (g : Option (Nat × Bool)) (ρ : Env) (run skip : Prop) : Prop :=
 match g with
 | none => run
 | some (j, want) =>
  match (all[j]?).bind (·.dst) with
  | none => skip
  | some t =>
   match ρ t with
   | .v (.bool b) => (b = want → run) ∧ (b = !want → skip)
   | .v (.tuple ⟨[]⟩) => skip
   | _ => False
structure Par where
 P : Program
 Lf : TypeId → List LeafK
 Γ : Glob
 mz : Option Tmp → Bool
 fl : Nat → List Bool
 bf : Nat → List Nat
def aops (p : Par) (all : List Oper) : List Oper → (Env → Sig → Prop) → Env → Sig → Prop
 | [], K, ρ, σ => K ρ σ
 | o :: rest, K, ρ, σ =>
  aguard all o.guard ρ (aop p.P p.Lf p.Γ (!p.mz o.dst) (aev p.Γ ρ) σ o.op fun r σ' => aops p all rest K (aput ρ o.dst r) σ')
   (aops p all rest K (aput ρ o.dst (.v undef)) σ)
structure After (Γ : Glob) (w : World) (σ : Sig) (a : Act) (K : Env → Sig → Prop) (a' : Act) (w' : World) : Prop where
 out : ∃ ρ' σ', K ρ' σ' ∧ Rel Γ w' σ' ∧ Act.Is w' σ' ρ' a' ∧ Ext w σ w' σ'
 defers : a'.defers = a.defers
 size : a'.tmps.size = a.tmps.size
theorem put_defers (a : Act) (d : Option Tmp) (v : Value) : (a.put d v).defers = a.defers := by cases d <;> rfl
theorem put_size (a : Act) (d : Option Tmp) (v : Value) : (a.put d v).tmps.size = a.tmps.size := by cases d <;> simp [Act.put]
def dstsOk (n : Nat) (ops : List Oper) : Bool := ops.all fun o => match o.dst with | some d => decide (d < n) | none => true
theorem Is_aput {w : World} {σ : Sig} {ρ : Env} {a : Act} (h : Act.Is w σ ρ a) {d : Option Tmp} {x : AV} {v : Value} (hx : Rep w σ x v) (hd : ∀ t, d = some t → t < a.tmps.size) : Act.Is w σ (aput ρ d x) (a.put d v) := by
 cases d with
 | none => exact h
 | some t => exact h.put hx (hd t rfl)
theorem aguard_wanted {w : World} {σ : Sig} {ρ : Env} {a : Act} {ops : Array Oper} (h : Act.Is w σ ρ a) {o : Oper} {run skip : Prop} (hg : aguard ops.toList o.guard ρ run skip) :
  (Region.wanted o (yielded ops a.tmps) = true → run) ∧ (Region.wanted o (yielded ops a.tmps) = false → skip) := by
 unfold aguard at hg
 split at hg
 ·rename_i hn
  simp [Region.wanted, hn]
  exact hg
 ·rename_i j want hgd
  have hyd : yielded ops a.tmps j = match ((ops[j]?).bind (·.dst)).bind (a.tmps[·]?) with | some (.bool b) => some b | _ => none := rfl
  have hj : (ops.toList[j]?).bind (·.dst) = (ops[j]?).bind (·.dst) := by simp
  rw [hj] at hg
  split at hg
  ·rename_i hd
   have : yielded ops a.tmps j = none := by rw [hyd, hd]; rfl
   simp [Region.wanted, hgd, this]
   exact hg
  ·rename_i t hd
   have hs := h.slot t
   split at hg
   ·rename_i b hb
    rw [hb] at hs
    have hv : a.tmps.getD t undef = .bool b := by
     generalize a.tmps.getD t undef = u at hs
     cases hs
     rfl
    have hy : yielded ops a.tmps j = some b := by
     rw [hyd, hd]
     simp only [Option.bind_some]
     rw [Array.getD_eq_getD_getElem?] at hv
     cases hc : a.tmps[t]? with
     | none => rw [hc] at hv; simp [undef] at hv
     | some u => rw [hc] at hv; simp at hv; subst hv; rfl
    simp only [Region.wanted, hgd, hy]
    refine ⟨fun e => hg.1 (by simpa using e), fun e => hg.2 ?_⟩
    cases b <;> cases want <;> simp_all
   ·rename_i hb
    rw [hb] at hs
    have hv : a.tmps.getD t undef = undef := by
     generalize a.tmps.getD t undef = u at hs
     cases hs
     rfl
    have hy : yielded ops a.tmps j = none := by
     rw [hyd, hd]
     simp only [Option.bind_some]
     rw [Array.getD_eq_getD_getElem?] at hv
     cases hc : a.tmps[t]? with
     | none => rfl
     | some u => rw [hc] at hv; simp at hv; subst hv; rfl
    simp [Region.wanted, hgd, hy]
    exact hg
   ·exact hg.elim
theorem LetsOut.imp {Q Q' : Exit → Act → World → Prop} (hq : ∀ e a w, Q e a w → Q' e a w) (h : LetsOut Q) : LetsOut Q' := let ⟨a, w, q⟩ := h; ⟨a, w, hq _ _ _ q⟩
theorem wpIn_post {F : Fence} {n : Nat} {P : Program} {o : Oper} {a : Act} {w : World} {K K' : Act → World → Prop} {Q Q' : Exit → Act → World → Prop} (hk : ∀ a w, K a w → K' a w) (hq : ∀ e a w, Q e a w → Q' e a w)
  (hh : o.wpIn F n P a w K Q) : o.wpIn F n P a w K' Q' := by
 unfold Oper.wpIn at *
 refine ⟨hh.1, ?_⟩
 have hh := hh.2
 generalize (o.semAt F.round a.eval).run P w = r at *
 cases r with
 | ok x w' =>
  cases x <;> simp only [Oper.uponIn] at hh ⊢ <;>
   first
    | exact hk _ _ hh
    | exact ⟨hh.1, CallsIn.mono hh.2 (fun e w'' he => by cases e <;> first | exact hk _ _ he | exact hq _ _ _ he | exact LetsOut.imp hq he)⟩
    | exact ⟨hh.1, RowsIn.mono hh.2 (fun _ _ he => hk _ _ he)⟩
    | exact ⟨hh.1, RoundIn.mono hh.2 (fun e w'' he => by cases e <;> first | exact hk _ _ he | exact hq _ _ _ he | exact LetsOut.imp hq he)⟩
    | exact hh
 | halt x w' => cases x <;> simp only [Oper.uponIn] at hh ⊢ <;> first | exact hq _ _ _ hh | exact hh
theorem wpOpsIn_post {F : Fence} {n : Nat} {P : Program} {ops : Array Oper} {Q Q' : Exit → Act → World → Prop} (hq : ∀ e a w, Q e a w → Q' e a w) : ∀ (l : List Nat) (a : Act) (w : World), wpOpsIn F n P ops Q l a w → wpOpsIn F n P ops Q' l a w
 | [], _, _, h => hq _ _ _ h
 | i :: l, a, w, h => by
  rw [wpOpsIn_cons] at h ⊢
  unfold wpOpIn at *
  split
  ·rename_i hn; simp only [hn] at h; exact wpOpsIn_post hq l _ _ h
  ·rename_i o ho
   simp only [ho] at h
   split
   ·rename_i hw; simp only [hw, if_true] at h; exact wpIn_post (fun a w => wpOpsIn_post hq l a w) hq h
   ·rename_i hw; simp only [hw] at h; exact ⟨h.1, wpOpsIn_post hq l _ _ h.2⟩
theorem aops_sound {p : Par} {ro : Option Nat} {ops : Array Oper} {K : Env → Sig → Prop} : ∀ (rest : List Oper) (k : Nat), ops.toList.drop k = rest → ∀ {ρ : Env} {σ : Sig} {a : Act} {w : World},
  aops p ops.toList rest K ρ σ → Rel p.Γ w σ → Act.Is w σ ρ a → dstsOk a.tmps.size rest = true →
  wpOpsIn (FF ro) 0 p.P ops (fun e a' w' => e = .normal ∧ After p.Γ w σ a K a' w') (List.range' k rest.length) a w
 | [], k, hk, ρ, σ, a, w, h, r, ha, hd => ⟨rfl, ⟨ρ, σ, h, r, ha, Ext.refl _ _⟩, rfl, rfl⟩
 | o :: rest, k, hk, ρ, σ, a, w, h, r, ha, hd => by
  have hlt : k < ops.toList.length := by
   rcases Nat.lt_or_ge k ops.toList.length with h | h
   ·exact h
   ·rw [List.drop_eq_nil_of_le h] at hk; cases hk
  have ho : ops[k]? = some o := by
   have : ops.toList[k]? = some o := by
    have := congrArg (fun l => l[0]?) hk
    simpa [List.getElem?_drop] using this
   simpa using this
  have hk' : ops.toList.drop (k + 1) = rest := by
   have := congrArg List.tail hk
   simpa using this
  simp only [dstsOk, List.all_cons, Bool.and_eq_true] at hd
  have hdst : ∀ t, o.dst = some t → t < a.tmps.size := fun t ht => by have := hd.1; rw [ht] at this; simpa using this
  simp only [aops] at h
  obtain ⟨hw1, hw2⟩ := aguard_wanted ha h
  simp only [List.length_cons, List.range'_succ, wpOpsIn_cons, wpOpIn, ho]
  have mono : ∀ (x : AV) (v : Value) (σ' : Sig) (w' : World), aops p ops.toList rest K (aput ρ o.dst x) σ' → Rep w' σ' x v → Rel p.Γ w' σ' → Ext w σ w' σ' →
    wpOpsIn (FF ro) 0 p.P ops (fun e a' w'' => e = .normal ∧ After p.Γ w σ a K a' w'') (List.range' (k + 1) rest.length) (a.put o.dst v) w' := by
   intro x v σ' w' hK hx hr he
   have := aops_sound (ro := ro) rest (k + 1) hk' hK hr (Is_aput (ha.ext he) hx hdst) (by rw [put_size]; exact hd.2)
   refine wpOpsIn_post (fun e a' w'' ⟨h1, h2⟩ => ⟨h1, ?_⟩) _ _ _ this
   obtain ⟨ρ', σ'', g1, g2, g3, g4⟩ := h2.out
   exact ⟨⟨ρ', σ'', g1, g2, g3, he.trans g4⟩, h2.defers.trans (put_defers ..), h2.size.trans (put_size ..)⟩
  split
  ·rename_i hw
   have hop := aop_wp (ro := ro) (Q := fun e a' w' => e = .normal ∧ After p.Γ w σ a K a' w') rfl r ha (hw1 hw)
   refine Oper.wpIn_mono (fun a' w' ⟨v, x, σ', e1, g1, g2, g3, g4⟩ => ?_) hop
   subst e1
   exact mono x v σ' w' g4 g1 g2 g3
  ·rename_i hw
   refine ⟨fun _ _ => FF_fn _ _, mono _ undef σ w (hw2 (by simpa using hw)) (.v _) r (Ext.refl _ _)⟩
end Go.AL
