/- The reference's cases, told plainly, and that they are the library's. -/
import Derived.Test.YtjimmpldofoimaaGreatDoorXe
import Derived.Test.YtjimmpldofoimaaGreatDoorXq
set_option linter.unusedVariables false
set_option linter.unusedSimpArgs false
namespace Go.AL
/-! ### The lists of the reference -/
/-! ### What the loops come to, once the kids are known -/
/-! ### Terms -/
theorem num_bd {t : Tm} (h : numbersE t = 0) : (∀ x ∈ t.coeffs, -1000000 ≤ x ∧ x ≤ 1000000) ∧ -1000000000000 ≤ t.const ∧ t.const ≤ 1000000000000 := by
  have hw : ∀ {n lo hi : Int}, withinE n lo hi = 0 → lo ≤ n ∧ n ≤ hi := fun {n lo hi} h => by
    unfold withinE at h
    split at h
    · cases h
    · omega
  have h0 := (firstE_zero _).1 h
  have h1 := (firstE_zero _).1 (h0 _ (List.mem_cons_self ..))
  exact ⟨fun x hx => hw (h1 _ (List.mem_map_of_mem hx)), hw (h0 _ (by simp))⟩
/-! ### The lists of the reference are the library's -/
/-! ### Which ways are used -/
def hit (l : List Nd) (M : List Bool × List Bool) (j : Nat) : Prop := ((M.1[j]?).getD false = true ∧ larW l ((j : Int), false) = true) ∨ ((M.2[j]?).getD false = true ∧ larW l ((j : Int), true) = true)
end Go.AL

/- What the cases mean: a node holds exactly if all terms of one of its cases are at least 0. -/
set_option linter.unusedVariables false
set_option linter.unusedSimpArgs false
namespace Go.AL
/-! ### Exact values -/
def dotZ : List Int → List Int → Int
  | c :: cs, v :: vs => c * v + dotZ cs vs
  | _, _ => 0
def valZ (t : Tm) (vs : List Int) : Int := t.const + dotZ t.coeffs vs
def ValZ (vs : List Int) : Prop := ∀ v ∈ vs, -4294967295 ≤ v ∧ v ≤ 4294967295
def CsZ (cs : List Int) : Prop := ∀ c ∈ cs, -1000000 ≤ c ∧ c ≤ 1000000
theorem mul_bdZ {c h : Int} (hc : -1000000 ≤ c ∧ c ≤ 1000000) (hh : -4294967295 ≤ h ∧ h ≤ 4294967295) : -4294967295000000 ≤ c * h ∧ c * h ≤ 4294967295000000 := by
  have h1 : (c * h).natAbs ≤ 1000000 * 4294967295 := by
    rw [Int.natAbs_mul]
    exact Nat.mul_le_mul (by omega) (by omega)
  omega
theorem valueF_Z : ∀ (cs vs : List Int) (n B : Int), -B ≤ n → n ≤ B → B + cs.length * 4294967295000000 ≤ 9000000000000000000 → CsZ cs → ValZ vs → valueF cs vs n = n + dotZ cs vs
  | [], _, n, _, _, _, _, _, _ => by simp [valueF, dotZ]
  | _ :: _, [], n, _, _, _, _, _, _ => by simp [valueF, dotZ]
  | c :: cs, v :: vs, n, B, h1, h2, hB, hc, hv => by
    have hcc := hc c List.mem_cons_self
    have hvv := hv v List.mem_cons_self
    have hp := mul_bdZ hcc hvv
    simp only [List.length_cons] at hB
    rw [valueF, dotZ, wrap_i64 (c * v) (by omega) (by omega), wrap_i64 (n + c * v) (by omega) (by omega)]
    rw [valueF_Z cs vs (n + c * v) (B + 4294967295000000) (by omega) (by omega) (by omega) (fun x hx => hc x (List.mem_cons_of_mem _ hx)) (fun x hx => hv x (List.mem_cons_of_mem _ hx))]
    omega
/-- A term whose numbers are near their ranges. -/
def Near (t : Tm) : Prop := t.coeffs.length ≤ 8 ∧ CsZ t.coeffs ∧ -2000000000000 ≤ t.const ∧ t.const ≤ 2000000000000
theorem Near.val {t : Tm} (h : Near t) {vs : List Int} (hv : ValZ vs) : valueR t vs = valZ t vs := by
  obtain ⟨h1, h2, h3, h4⟩ := h
  exact valueF_Z t.coeffs vs t.const 2000000000000 (by omega) h4 (by omega) h2 hv
theorem Near.less {t : Tm} (h : Near t) {c : Int} (h1 : -3 ≤ c) (h2 : c ≤ 3) (hb : -1100000000000 ≤ t.const ∧ t.const ≤ 1100000000000) : lessT t c = ⟨t.coeffs, t.const - c⟩ ∧ Near (lessT t c) := by
  obtain ⟨g1, g2, g3, g4⟩ := h
  have e : lessT t c = ⟨t.coeffs, t.const - c⟩ := by
    rw [lessT, plusT, plusC_nil]
    simp only
    rw [wrap_i64 (-1 * c) (by omega) (by omega), wrap_i64 _ (by omega) (by omega)]
    congr 1
    omega
  refine ⟨e, ?_⟩
  rw [e]
  exact ⟨g1, g2, by show -2000000000000 ≤ t.const - c; omega, by show t.const - c ≤ 2000000000000; omega⟩
theorem near_of {t : Tm} (hl : t.coeffs.length ≤ 8) (h : numbersE t = 0) : Near t := by
  obtain ⟨h1, h2, h3⟩ := num_bd h
  exact ⟨hl, h1, by omega, by omega⟩
/-! ### Truths -/
end Go.AL

/- Formulas joined, and turned: they are right, and what they mean. -/
set_option linter.unusedVariables false
set_option linter.unusedSimpArgs false
namespace Go.AL
open Go.Proofs
theorem Grow.neN {σ0 σ : Sig} {s n b : Nat} {a : AV} {cs : List AV} (h : Grow σ0 σ s a cs n) (hb : σ b = none) : ∀ s1 o m, a ≠ .own b s1 o m := fun s1 o m e => by
  rcases h with ⟨h, _⟩ | ⟨b', c, h0, h1, h2, h3⟩
  · rcases h with h | h <;> rw [h] at e <;> cases e
  · rw [h0] at e
    cases e
    rw [hb] at h2
    cases h2
theorem node_of {n : Nd} {i : Nat} {vars : Int} (h : NodeOk n i vars) : nodeE n i vars = 0 := by
  have hlo := h.lo
  have hhi := h.hi
  unfold nodeE
  rw [if_neg (by omega)]
  by_cases h1 : n.kind ≤ 1
  · obtain ⟨a, _, c⟩ := h.term h1
    rw [if_pos h1]
    refine (firstE_zero _).2 fun x hx => ?_
    simp only [List.mem_cons, List.not_mem_nil, or_false] at hx
    rcases hx with rfl | rfl
    · exact a
    · rw [c]; rfl
  · obtain ⟨a, b, c, d⟩ := h.form (by omega)
    rw [if_neg h1]
    refine (firstE_zero _).2 fun x hx => ?_
    simp only [List.mem_cons, List.not_mem_nil, or_false] at hx
    rcases hx with rfl | rfl
    · refine (firstE_zero _).2 fun x hx => ?_
      simp only [List.mem_cons, List.not_mem_nil, or_false] at hx
      rcases hx with rfl | rfl | rfl
      · rw [a]; rfl
      · rw [whenE, if_neg]; simp; omega
      · rw [whenE, if_neg]
        simp only [Bool.and_eq_true, decide_eq_true_eq, Bool.not_eq_true', decide_eq_false_iff_not, not_and, Classical.not_not]
        intro h2
        have := c h2
        omega
    · refine (firstE_zero _).2 fun x hx => ?_
      obtain ⟨k, hk, rfl⟩ := List.mem_map.1 hx
      have := d k hk
      rw [earlierE, whenE, if_neg]
      simp
      omega
theorem nodes_of {vars : Int} : ∀ (l : List Nd) (k : Nat), (∀ i n, l[i]? = some n → NodeOk n (k + i) vars) → nodesE vars k l = 0
  | [], _, _ => rfl
  | n :: l, k, h => by
    have h0 := node_of (h 0 n rfl)
    rw [nodesE, if_pos (by simpa using h0)]
    exact nodes_of l (k + 1) fun i m hm => by
      have := h (i + 1) m (by simpa using hm)
      rwa [show k + 1 + i = k + (i + 1) by omega]
theorem check_of {f : Fm} (h1 : f.nodes ≠ []) (h2 : f.nodes.length ≤ 200) (h3 : 0 ≤ f.vars) (h4 : f.vars ≤ 8) (h5 : ∀ i n, f.nodes[i]? = some n → NodeOk n i f.vars) : checkE f = 0 := by
  have hh : headE f = 0 := by
    refine (firstE_zero _).2 fun x hx => ?_
    simp only [List.mem_cons, List.not_mem_nil, or_false] at hx
    rcases hx with rfl | rfl | rfl
    · rw [withinE, if_neg (by omega)]
    · rw [whenE, if_neg]; simpa using h1
    · rw [whenE, if_neg]; simp; omega
  rw [checkE, if_pos hh]
  exact nodes_of f.nodes 0 fun i n hn => by
    have := h5 i n hn
    rwa [Nat.zero_add]
/-! ### What they mean -/
end Go.AL

/- What FormulaMeans asks of the plain laws: the terms of cases are right, their values are exact. -/
set_option linter.unusedVariables false
set_option linter.unusedSimpArgs false
namespace Go.AL
open Go.Proofs
theorem values_okM {vs : List Int} {n : Int} (h : valuesE vs n = 0) : (vs.length : Int) = n ∧ ValZ vs := by
  have h0 := (firstE_zero _).1 h
  have h1 := (whenE_zero (by decide)).1 (h0 (whenE (!decide ((vs.length : Int) = n)) 2) (by simp))
  have h2 := (firstE_zero _).1 (h0 (firstE (vs.map fun x => withinE x (-4294967295) 4294967295)) (by simp))
  refine ⟨by simpa using h1, fun v hv => ?_⟩
  have := h2 _ (List.mem_map_of_mem hv)
  unfold withinE at this
  split at this
  · cases this
  · omega
end Go.AL
