/- The laws of the searches: what narrowing keeps, what is found, what is not. -/
import Derived.Test.YtjimmpldofoimaaGreatDoorWk
import Derived.Test.YtjimmpldofoimaaGreatDoorWl
set_option linter.unusedVariables false
set_option linter.unusedSimpArgs false
namespace Go.AL
open Go.Proofs
/-- Exact values. -/
def dotX : List Int → List Int → Int
  | c :: cs, v :: vs => c * v + dotX cs vs
  | _, _ => 0
def valX (t : Tm) (vs : List Int) : Int := t.const + dotX t.coeffs vs
def Val (vs : List Int) : Prop := ∀ v ∈ vs, -4294967295 ≤ v ∧ v ≤ 4294967295
/-- Values in spans, spans in spans. -/
def InS (vs : List Int) (sp : List Rg) : Prop := vs.length = sp.length ∧ ∀ (i : Nat) v r, vs[i]? = some v → sp[i]? = some r → r.lo ≤ v ∧ v ≤ r.hi
def SubS (s sp : List Rg) : Prop := s.length = sp.length ∧ ∀ (i : Nat) a b, s[i]? = some a → sp[i]? = some b → b.lo ≤ a.lo ∧ a.hi ≤ b.hi
theorem SubS.refl (s : List Rg) : SubS s s := ⟨rfl, fun i a b h k => by rw [h] at k; cases k; omega⟩
theorem get_of_len {α β : Type} {a : List α} {b : List β} (h : a.length = b.length) {i : Nat} {x : α} (hx : a[i]? = some x) : ∃ y, b[i]? = some y :=
  ⟨b[i]'(by rw [← h]; exact lt_of_getElem? hx), List.getElem?_eq_getElem _⟩
theorem SubS.trans {s t u : List Rg} (h : SubS s t) (k : SubS t u) : SubS s u := ⟨h.1.trans k.1, fun i a b ha hb => by
  obtain ⟨c, hc⟩ := get_of_len h.1 ha
  have h1 := h.2 i a c ha hc
  have h2 := k.2 i c b hc hb
  omega⟩
theorem InS.sub {vs : List Int} {s t : List Rg} (h : InS vs s) (k : SubS s t) : InS vs t := ⟨h.1.trans k.1, fun i v b ha hb => by
  obtain ⟨c, hc⟩ := get_of_len h.1 ha
  have h1 := h.2 i v c ha hc
  have h2 := k.2 i c b hc hb
  omega⟩
theorem SubS.set {s : List Rg} {i : Nat} {x y : Rg} (hx : s[i]? = some x) (h1 : x.lo ≤ y.lo) (h2 : y.hi ≤ x.hi) : SubS (s.set i y) s := ⟨by simp, fun k a b ha hb => by
  rw [List.getElem?_set] at ha
  split at ha
  · subst_vars
    split at ha
    · cases ha
      rw [hx] at hb
      cases hb
      exact ⟨h1, h2⟩
    · cases ha
  · rw [ha] at hb
    cases hb
    omega⟩
theorem InS.set {vs : List Int} {s : List Rg} (h : InS vs s) {i : Nat} {v : Int} {y : Rg} (hv : vs[i]? = some v) (h1 : y.lo ≤ v) (h2 : v ≤ y.hi) : InS vs (s.set i y) := ⟨by simp [h.1], fun k a b ha hb => by
  rw [List.getElem?_set] at hb
  split at hb
  · subst_vars
    split at hb
    · cases hb
      rw [hv] at ha
      cases ha
      exact ⟨h1, h2⟩
    · cases hb
  · exact h.2 k a b ha hb⟩
theorem InS.val {vs : List Int} {s : List Rg} (h : InS vs s) (hV : Vs s) : Val vs := fun v hv => by
  obtain ⟨i, hi⟩ := List.mem_iff_getElem?.1 hv
  obtain ⟨r, hr⟩ := get_of_len h.1 hi
  have h1 := h.2 i v r hi hr
  have h2 := hV r (mem_of_get hr)
  omega
theorem prod_ge {c v : Int} {r : Rg} (h1 : r.lo ≤ v) (h2 : v ≤ r.hi) : c * v ≤ prodP c r := by
  unfold prodP
  split
  · exact Int.mul_le_mul_of_nonneg_left h2 (by omega)
  · exact Int.mul_le_mul_of_nonpos_left (by omega) h1
theorem great_ge {sp : List Rg} {vs : List Int} (hV : Vs sp) (hI : InS vs sp) (w : Int) : ∀ (cs : List Int) (k : Nat) (n B : Int), -B ≤ n → n ≤ B → B + cs.length * 4294967295000000 ≤ 9000000000000000000 → Cs cs → cs.length + k = sp.length →
    n + dotX (zat w k cs) (vs.drop k) ≤ greatF sp w k cs n
  | [], k, n, B, _, _, _, _, _ => by simp [greatF, zat, dotX]
  | c :: cs, k, n, B, h1, h2, hB, hc, hl => by
    simp only [List.length_cons] at hB hl
    obtain ⟨r, hr, hd⟩ := drop_get (l := sp) (k := k) (by omega)
    obtain ⟨v, hv, hdv⟩ := drop_get (l := vs) (k := k) (by rw [hI.1]; omega)
    have hvr := hI.2 k v r hv hr
    have hv' := hV r (mem_of_get hr)
    have hcc := hc c List.mem_cons_self
    have hp := prodP_bound hcc hv'
    have hge := prod_ge (c := c) hvr.1 hvr.2
    rw [great_cons hr hcc hv', zat, hdv, dotX]
    by_cases hk : (k : Int) = w
    · rw [if_pos hk, if_pos hk]
      have := great_ge hV hI w cs (k + 1) n (B + 4294967295000000) (by omega) (by omega) (by omega) (fun x hx => hc x (List.mem_cons_of_mem _ hx)) (by omega)
      rw [Int.zero_mul, Int.zero_add]
      exact this
    · rw [if_neg hk, if_neg hk, wrap_i64 (n + prodP c r) (by omega) (by omega)]
      have := great_ge hV hI w cs (k + 1) (n + prodP c r) (B + 4294967295000000) (by omega) (by omega) (by omega) (fun x hx => hc x (List.mem_cons_of_mem _ hx)) (by omega)
      omega
theorem dot_set : ∀ (cs vs : List Int) (i : Nat) (c v : Int), cs[i]? = some c → vs[i]? = some v → dotX (cs.set i 0) vs = dotX cs vs - c * v
  | [], _, _, _, _, h, _ => by simp at h
  | _ :: _, [], _, _, _, _, h => by simp at h
  | c' :: cs, v' :: vs, 0, c, v, h, k => by
    simp at h k
    subst h
    subst k
    simp [dotX]
    omega
  | c' :: cs, v' :: vs, i + 1, c, v, h, k => by
    simp at h k
    rw [List.set_cons_succ, dotX, dotX, dot_set cs vs i c v h k]
    omega
theorem TmOk.great_at {t : Tm} {m : Nat} (h : TmOk t m) {sp : List Rg} {vs : List Int} (hV : Vs sp) (hs : sp.length = m) (hI : InS vs sp) {i : Nat} {c v : Int} (hc : t.coeffs[i]? = some c) (hv : vs[i]? = some v) : valX t vs - c * v ≤ greatP t sp i := by
  have h1 := h.lo
  have h2 := h.hi
  have h3 := h.len
  have h4 := h.le
  have := great_ge hV hI (i : Int) t.coeffs 0 t.const 1000000000000 (by omega) h2 (by omega) h.cs (by omega)
  have hz := zat_set t.coeffs 0 i
  rw [Nat.zero_add] at hz
  rw [hz, List.drop_zero, dot_set _ _ _ _ _ hc hv] at this
  unfold valX greatP
  omega
theorem floorP_spec {r c : Int} (hc : 1 ≤ c) (h1 : -40000000000000000 ≤ r) (h2 : r ≤ 40000000000000000) : c * floorP r c ≤ r ∧ r < c * floorP r c + c := by
  have e := Int.mul_tdiv_add_tmod r c
  have l1 := Int.tmod_lt_of_pos r (b := c) (by omega)
  have l2 := Int.lt_tmod_of_pos r (b := c) (by omega)
  have h := tdiv_bound (r := r) hc
  unfold floorP
  rw [wrap_i64 (r.tdiv c) (by omega) (by omega), wrap_i64 (r.tdiv c - 1) (by omega) (by omega)]
  split
  · rw [Int.mul_sub, Int.mul_one]; omega
  · omega
theorem TmOk.keep {t : Tm} {m : Nat} (h : TmOk t m) {sp : List Rg} {vs : List Int} (hV : Vs sp) (hs : sp.length = m) (hI : InS vs sp) (h0 : 0 ≤ valX t vs) {i : Nat} {c : Int} (hc : t.coeffs[i]? = some c) (hc0 : c ≠ 0) {x : Rg} {v : Int} (hx : sp[i]? = some x) (hv : vs[i]? = some v) :
    (narrowP t sp i c x).lo ≤ v ∧ v ≤ (narrowP t sp i c x).hi := by
  have hg := h.great hV hs i
  have hat := h.great_at hV hs hI hc hv
  have hin := hI.2 i v x hv hx
  have hcc := h.cs c (mem_of_get hc)
  unfold narrowP
  split
  · rename_i hpos
    have hf := floorP_spec (c := c) (by omega) hg.1 hg.2
    have hb := floorP_bound (c := c) (by omega) hg.1 hg.2
    rw [wrap_i64 (0 - floorP (greatP t sp i) c) (by omega) (by omega)]
    have key : 0 - floorP (greatP t sp i) c ≤ v := by
      have : c * (-floorP (greatP t sp i) c - 1) < c * v := by
        rw [Int.mul_sub, Int.mul_one, Int.mul_neg]
        omega
      have := Int.lt_of_mul_lt_mul_left this (by omega)
      omega
    simp only
    split <;> omega
  · rename_i hneg
    rw [wrap_i64 (0 - c) (by omega) (by omega)]
    have hf := floorP_spec (c := 0 - c) (by omega) hg.1 hg.2
    have key : v ≤ floorP (greatP t sp i) (0 - c) := by
      have : (0 - c) * v < (0 - c) * (floorP (greatP t sp i) (0 - c) + 1) := by
        rw [Int.mul_add, Int.mul_one, Int.sub_mul 0 c v, Int.zero_mul]
        omega
      have := Int.lt_of_mul_lt_mul_left this (by omega)
      omega
    simp only
    split <;> omega
end Go.AL

/- The laws of proofs: terms with a right proof have no model; the proof by a pair is right. -/
set_option linter.unusedVariables false
set_option linter.unusedSimpArgs false
namespace Go.AL
open Go.Proofs
structure TmW (t : Tm) (m : Nat) : Prop where
  len : t.coeffs.length = m
  cs : Cs t.coeffs
  lo : -1000000000000 ≤ t.const
  hi : t.const ≤ 1000000000000
theorem TmOk.w {t : Tm} {m : Nat} (h : TmOk t m) : TmW t m := ⟨h.len, h.cs, h.lo, h.hi⟩
def Fac (fs : List Int) : Prop := ∀ f ∈ fs, 0 ≤ f ∧ f ≤ 1000
structure FormOk (p : List St) (m : Nat) : Prop where
  leaf : ∀ s ∈ p, s.leaf = true → s.factors.length ≤ 167 ∧ Fac s.factors
  bound : ∀ s ∈ p, s.leaf = false → -4294967295 ≤ s.bound ∧ s.bound ≤ 4294967295
  ok : okSteps p m
theorem formOk_of {p : List St} {m : Nat} (h : checkFormE p m = 0) : FormOk p m := by
  have hok := (form_ok h).2.2
  have hz : ∀ i s, p[i]? = some s → stepE s (i : Nat) m = 0 := by
    unfold checkFormE at h
    simp only at h
    split at h
    · intro i s hs
      have := steps_zero h i s hs
      simpa using this
    · rename_i hn
      exact absurd h hn
  refine ⟨fun s hs hl => ?_, fun s hs hl => ?_, hok⟩
  · obtain ⟨i, hi⟩ := List.mem_iff_getElem?.1 hs
    have := hz i s hi
    rw [stepE, if_pos hl] at this
    split at this
    · cases this
    · refine ⟨by omega, fun f hf => ?_⟩
      have h1 := (firstE_zero _).1 this (firstE (s.factors.map fun n => withinE n 0 1000)) (by simp)
      have h2 := (firstE_zero _).1 h1 _ (List.mem_map_of_mem hf)
      unfold withinE at h2
      split at h2
      · cases h2
      · omega
  · obtain ⟨i, hi⟩ := List.mem_iff_getElem?.1 hs
    have := hz i s hi
    rw [stepE, if_neg (by rw [hl]; decide)] at this
    have h1 := (firstE_zero _).1 this (withinE s.bound (-4294967295) 4294967295) (by simp)
    unfold withinE at h1
    split at h1
    · cases h1
    · omega
end Go.AL
