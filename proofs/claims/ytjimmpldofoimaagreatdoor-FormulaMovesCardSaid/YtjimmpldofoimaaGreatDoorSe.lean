/- FormulaMoves, plainly: terms put in, ranges and their ends, formulas printed and parsed. -/
import Derived.Test.YtjimmpldofoimaaGreatDoorAlNew
import Derived.Test.YtjimmpldofoimaaGreatDoorLb
import Derived.Test.YtjimmpldofoimaaGreatDoorSc
import Derived.Test.YtjimmpldofoimaaGreatDoorSd
import Derived.Test.YtjimmpldofoimaaGreatDoorX30
import Derived.Test.YtjimmpldofoimaaGreatDoorXq
open Nat renaming reduceEqDiff → xQ, reduceAdd → xA, reduceMul → xM, reduceLeDiff → xL
open Int renaming reduceLT → xT, reduceLE → xE, reduceToNat → xN
open Go.AL renaming retPost_one → xP, retPost_oneN → xR, ers_at' → xS
set_option linter.unusedVariables false
set_option linter.unusedSimpArgs false
namespace Go.AL
open Go.Proofs
/-! ### Terms put in -/
theorem plusC_dot (m : Int) : ∀ (a b vs : List Int), a.length = b.length → CsZ a → CsZ b → -1000000 ≤ m → m ≤ 1000000 → dotZ (plusC m a b) vs = dotZ a vs + m * dotZ b vs
  | [], [], vs, _, _, _, _, _ => by simp [plusC, dotZ]
  | [], _ :: _, vs, h, _, _, _, _ => by simp at h
  | _ :: _, [], vs, h, _, _, _, _ => by simp at h
  | x :: a, y :: b, [], _, _, _, _, _ => by simp [plusC, dotZ]
  | x :: a, y :: b, v :: vs, h, ha, hb, h1, h2 => by
    have hx := ha x (by simp)
    have hy := hb y (by simp)
    have hp : (m * y).natAbs ≤ 1000000 * 1000000 := by
      rw [Int.natAbs_mul]
      exact Nat.mul_le_mul (by omega) (by omega)
    rw [plusC, dotZ, dotZ, dotZ, plusC_dot m a b vs (by simpa using h) (fun z hz => ha z (by simp [hz])) (fun z hz => hb z (by simp [hz])) h1 h2]
    rw [wrap_i64 (m * y) (by omega) (by omega), wrap_i64 (x + m * y) (by omega) (by omega)]
    rw [Int.add_mul, Int.mul_add, Int.mul_assoc]
    omega
theorem plus_val {t x : Tm} {m : Int} (hl : t.coeffs.length = x.coeffs.length) (ht : numbersE t = 0) (hx : numbersE x = 0) (h1 : -1000000 ≤ m) (h2 : m ≤ 1000000) (vs : List Int) : valZ (plusT t x m) vs = valZ t vs + m * valZ x vs := by
  obtain ⟨a1, a2⟩ := num_bd ht
  obtain ⟨b1, b2⟩ := num_bd hx
  have hp : (m * x.const).natAbs ≤ 1000000 * 1000000000000 := by
    rw [Int.natAbs_mul]
    exact Nat.mul_le_mul (by omega) (by omega)
  rw [plusT, valZ, valZ, valZ, plusC_dot m t.coeffs x.coeffs vs hl a1 b1 h1 h2, wrap_i64 (m * x.const) (by omega) (by omega), wrap_i64 (t.const + m * x.const) (by omega) (by omega), Int.mul_add]
  simp only
  omega
theorem large_zero {t : Tm} (h : largeE t = 0) : numbersE t = 0 := by
  have := (whenE_zero (by decide)).1 h
  simpa using this
theorem putT_val (terms : List Tm) (m : Nat) (vs : List Int) (htl : ∀ t ∈ terms, t.coeffs.length = m) (htn : ∀ t ∈ terms, numbersE t = 0) : ∀ (cs : List Int) (i : Nat) (t r : Tm), i + cs.length ≤ terms.length → CsZ cs → t.coeffs.length = m → numbersE t = 0 → putT terms cs i t = some r → valZ r vs = valZ t vs + dotZ cs ((terms.map fun t => valZ t vs).drop i) ∧ numbersE r = 0 ∧ r.coeffs.length = m
  | [], i, t, r, _, _, hl, hn, h => by
    cases h
    refine ⟨?_, hn, hl⟩
    rw [dotZ]
    · omega
    · intros; simp_all
  | c :: cs, i, t, r, hi, hc, hl, hn, h => by
    simp only [List.length_cons] at hi
    have hlt : i < terms.length := by omega
    have hg : terms[i]? = some terms[i] := List.getElem?_eq_getElem hlt
    have hm := List.getElem_mem hlt
    have hcc := hc c (by simp)
    rw [putT, hg] at h
    simp only at h
    split at h
    · rename_i hL
      have hpn := large_zero hL
      have hpl : (plusT t terms[i] c).coeffs.length = m := by rw [plusT]; simp only [plusC_len]; exact hl
      obtain ⟨q1, q2, q3⟩ := putT_val terms m vs htl htn cs (i + 1) _ r (by omega) (fun z hz => hc z (by simp [hz])) hpl hpn h
      refine ⟨?_, q2, q3⟩
      have hd : (terms.map fun t => valZ t vs).drop i = valZ terms[i] vs :: (terms.map fun t => valZ t vs).drop (i + 1) := by
        rw [List.drop_eq_getElem_cons (by simpa using hlt)]
        simp
      rw [q1, plus_val (by rw [hl, htl _ hm]) hn (htn _ hm) hcc.1 hcc.2, hd, dotZ]
      omega
    · cases h
theorem dot_zeros : ∀ (m : Nat) (vs : List Int), dotZ (List.replicate m 0) vs = 0
  | 0, _ => rfl
  | m + 1, [] => rfl
  | m + 1, v :: vs => by rw [List.replicate_succ, dotZ, dot_zeros m vs]; omega
theorem zeros_num {m : Nat} {c : Int} (h : -1000000000000 ≤ c ∧ c ≤ 1000000000000) : numbersE ⟨List.replicate m 0, c⟩ = 0 := by
  refine (firstE_zero _).2 fun x hx => ?_
  simp only [List.mem_cons, List.not_mem_nil, or_false] at hx
  rcases hx with rfl | rfl
  · refine (firstE_zero _).2 fun y hy => ?_
    obtain ⟨z, hz, rfl⟩ := List.mem_map.1 hy
    rw [(List.mem_replicate.1 hz).2]
    rfl
  · unfold withinE
    rw [if_neg (by omega)]
theorem checkTerm_of {t : Tm} {m : Nat} (hm : m ≤ 8) (hl : t.coeffs.length = m) (hn : numbersE t = 0) : checkTermE t m = 0 := by
  refine (firstE_zero _).2 fun x hx => ?_
  simp only [List.mem_cons, List.not_mem_nil, or_false] at hx
  rcases hx with rfl | rfl | rfl
  · unfold withinE
    rw [if_neg (by omega)]
  · rw [hl]; simp [whenE]
  · exact hn
theorem putNd_facts {terms : List Tm} {m : Nat} {vs : List Int} (hm : m ≤ 8) (hv : ValZ vs) (htl : ∀ t ∈ terms, t.coeffs.length = m) (htn : ∀ t ∈ terms, numbersE t = 0) (hi : ValZ (terms.map fun t => valZ t vs)) (h8 : terms.length ≤ 8)
    {n x : Nd} {i : Nat} (hN : NodeOk n i terms.length) (h1 : i ≤ 1000) (hp : putNd terms m n = some x) (b : List Bool) : nodeB vs b x = nodeB (terms.map fun t => valZ t vs) b n ∧ NodeOk x i m := by
  rw [putNd] at hp
  split at hp
  · rename_i hk
    obtain ⟨t1, t2, t3⟩ := hN.term hk
    have tn := (firstE_zero _).1 t1 (numbersE n.term) (by simp)
    obtain ⟨c1, c2⟩ := num_bd tn
    obtain ⟨r0, hr, rfl⟩ := Option.map_eq_some_iff.1 hp
    obtain ⟨q1, q2, q3⟩ := putT_val terms m vs htl htn n.term.coeffs 0 _ r0 (by omega) c1 (List.length_replicate) (zeros_num c2) hr
    have e1 : valueR r0 vs = valZ n.term (terms.map fun t => valZ t vs) := by
      rw [(near_of (by omega) q2).val hv, q1, valZ, dot_zeros, valZ, List.drop_zero]
      show n.term.const + 0 + _ = _
      omega
    have e2 : valueR n.term (terms.map fun t => valZ t vs) = valZ n.term (terms.map fun t => valZ t vs) := (near_of (by omega) tn).val hi
    have hlo := hN.lo
    refine ⟨?_, ⟨hN.lo, hN.hi, fun _ => ⟨checkTerm_of hm q3 q2, by show (r0.coeffs.length : Int) = m; omega, by show (shiftN 0 n).kids = []; rw [shiftN, t3]; rfl⟩, fun h => absurd hk (by simp only at h; omega)⟩⟩
    unfold nodeB
    simp only
    by_cases h0 : n.kind = 0
    · rw [if_pos h0, if_pos h0, e1, e2]
    · rw [if_neg h0, if_neg h0, if_pos (by omega), if_pos (by omega), e1, e2]
  · rename_i hk
    obtain ⟨f1, f2, f3, f4⟩ := hN.form (by omega)
    cases hp
    have e : (shiftN 0 n).kids = n.kids := by
      rw [shiftN]
      simp only
      conv => rhs; rw [← List.map_id n.kids]
      refine List.map_congr_left fun k hk => ?_
      have := f4 k hk
      rw [wrap_i64 _ (by omega) (by omega)]
      simp
    have hlo := hN.lo
    have hkd : (shiftN 0 n).kind = n.kind := rfl
    refine ⟨?_, ⟨hN.lo, hN.hi, fun h => absurd h hk, fun _ => ⟨f1, by rw [e]; exact f2, fun h => by rw [e]; exact f3 h, fun k hk' => f4 k (by rw [e] at hk'; exact hk')⟩⟩⟩
    unfold nodeB
    rw [hkd, e, if_neg (by omega), if_neg (by omega), if_neg (show ¬ n.kind = 0 by omega), if_neg (show ¬ n.kind = 1 by omega)]
theorem putNs_holds {terms : List Tm} {m : Nat} {vs : List Int} (hm : m ≤ 8) (hv : ValZ vs) (htl : ∀ t ∈ terms, t.coeffs.length = m) (htn : ∀ t ∈ terms, numbersE t = 0) (hi : ValZ (terms.map fun t => valZ t vs)) (h8 : terms.length ≤ 8) :
    ∀ (l acc r : List Nd) (i : Nat) (b : List Bool), (∀ k n, l[k]? = some n → NodeOk n (i + k) terms.length) → l.length + i ≤ 1000 → putNs terms m l acc = some r →
      ∃ l', r = acc ++ l' ∧ l'.length = l.length ∧ truthF vs l' b = truthF (terms.map fun t => valZ t vs) l b ∧ ∀ k n, l'[k]? = some n → NodeOk n (i + k) m
  | [], acc, r, i, b, _, _, h => by cases h; exact ⟨[], by simp, rfl, rfl, fun k n hk => by simp at hk⟩
  | n :: l, acc, r, i, b, hok, h2, h => by
    simp only [List.length_cons] at h2
    rw [putNs] at h
    cases hp : putNd terms m n with
    | none => rw [hp] at h; cases h
    | some x =>
      rw [hp] at h
      simp only at h
      obtain ⟨hB, hX⟩ := putNd_facts hm hv htl htn hi h8 (hok 0 n rfl) (by omega) hp b
      obtain ⟨l', e1, e3, e2, e4⟩ := putNs_holds hm hv htl htn hi h8 l (acc ++ [x]) r (i + 1) (b ++ [nodeB vs b x]) (fun k z hz => by have := hok (k + 1) z (by simpa using hz); rw [show i + 1 + k = i + (k + 1) by omega]; exact this) (by omega) h
      refine ⟨x :: l', by rw [e1]; simp, by simp [e3], ?_, fun k z hz => ?_⟩
      · rw [truthF, truthF, e2, hB]
      · cases k with
        | zero => simp at hz; subst hz; exact hX
        | succ k =>
          have := e4 k z (by simpa using hz)
          rw [show i + (k + 1) = i + 1 + k by omega]
          exact this
/-! ### Ranges and their ends -/
def lowL : List Int → List Rg → List Int
  | c :: cs, s :: ss => (if 0 ≤ c then s.lo else s.hi) :: lowL cs ss
  | _, _ => []
def highL : List Int → List Rg → List Int
  | c :: cs, s :: ss => (if 0 ≤ c then s.hi else s.lo) :: highL cs ss
  | _, _ => []
def SpZ (sp : List Rg) : Prop := ∀ s ∈ sp, -4294967295 ≤ s.lo ∧ s.lo ≤ s.hi ∧ s.hi ≤ 4294967295
theorem ends_mul {c lo hi : Int} (h : lo ≤ hi) : mn (c * lo) (c * hi) = c * (if 0 ≤ c then lo else hi) ∧ mx (c * lo) (c * hi) = c * (if 0 ≤ c then hi else lo) := by
  unfold mn mx
  by_cases hc : 0 ≤ c
  · have := Int.mul_le_mul_of_nonneg_left h hc
    rw [if_pos hc, if_pos hc]
    refine ⟨?_, ?_⟩
    · rw [if_neg (by omega)]
    · split <;> omega
  · have := Int.mul_le_mul_of_nonpos_left (by omega : c ≤ 0) h
    rw [if_neg hc, if_neg hc]
    refine ⟨?_, ?_⟩
    · split <;> omega
    · rw [if_neg (by omega)]
theorem ranged_ends : ∀ (cs : List Int) (sp : List Rg) (o : Rg) (B : Int), -B ≤ o.lo → o.lo ≤ B → -B ≤ o.hi → o.hi ≤ B → B + cs.length * 4294967295000000 ≤ 9000000000000000000 → CsZ cs → SpZ sp → rangedF cs sp o = ⟨o.lo + dotZ cs (lowL cs sp), o.hi + dotZ cs (highL cs sp)⟩
  | [], sp, o, B, _, _, _, _, _, _, _ => by simp [rangedF, dotZ]
  | c :: cs, [], o, B, _, _, _, _, _, _, _ => by simp [rangedF, lowL, highL, dotZ]
  | c :: cs, s :: sp, o, B, h1, h2, h3, h4, hB, hc, hs => by
    have hcc := hc c (by simp)
    obtain ⟨s1, s2, s3⟩ := hs s (by simp)
    have p1 := mul_bdZ hcc (h := s.lo) ⟨by omega, by omega⟩
    have p2 := mul_bdZ hcc (h := s.hi) ⟨by omega, by omega⟩
    obtain ⟨e1, e2⟩ := ends_mul (c := c) s2
    simp only [List.length_cons] at hB
    have p3 : -4294967295000000 ≤ c * (if 0 ≤ c then s.lo else s.hi) ∧ c * (if 0 ≤ c then s.lo else s.hi) ≤ 4294967295000000 := by split <;> omega
    have p4 : -4294967295000000 ≤ c * (if 0 ≤ c then s.hi else s.lo) ∧ c * (if 0 ≤ c then s.hi else s.lo) ≤ 4294967295000000 := by split <;> omega
    rw [rangedF, wrap_i64 (c * s.lo) (by omega) (by omega), wrap_i64 (c * s.hi) (by omega) (by omega), e1, e2, wrap_i64 _ (by omega) (by omega), wrap_i64 _ (by omega) (by omega)]
    rw [ranged_ends cs sp _ (B + 4294967295000000) (by simp only; omega) (by simp only; omega) (by simp only; omega) (by simp only; omega) (by omega) (fun z hz => hc z (by simp [hz])) (fun z hz => hs z (by simp [hz]))]
    rw [lowL, highL, dotZ, dotZ]
    simp only [Int.add_assoc]
theorem ends_in : ∀ (cs : List Int) (sp : List Rg) (vs : List Int), sp.length = vs.length → cs.length = vs.length → (∀ (k : Nat) (s : Rg) (v : Int), sp[k]? = some s → vs[k]? = some v → s.lo ≤ v ∧ v ≤ s.hi) → dotZ cs (lowL cs sp) ≤ dotZ cs vs ∧ dotZ cs vs ≤ dotZ cs (highL cs sp)
  | [], sp, vs, _, _, _ => by simp [dotZ]
  | c :: cs, [], [], _, h, _ => by simp at h
  | c :: cs, [], _ :: _, h, _, _ => by simp at h
  | c :: cs, _ :: _, [], h, _, _ => by simp at h
  | c :: cs, s :: sp, v :: vs, h1, h2, h => by
    obtain ⟨i1, i2⟩ := ends_in cs sp vs (by simpa using h1) (by simpa using h2) fun k s' v' a b => h (k + 1) s' v' (by simpa using a) (by simpa using b)
    obtain ⟨l1, l2⟩ := h 0 s v rfl rfl
    rw [lowL, highL, dotZ, dotZ, dotZ]
    by_cases hc : 0 ≤ c
    · have := Int.mul_le_mul_of_nonneg_left l1 hc
      have := Int.mul_le_mul_of_nonneg_left l2 hc
      rw [if_pos hc, if_pos hc]
      omega
    · have := Int.mul_le_mul_of_nonpos_left (by omega : c ≤ 0) l1
      have := Int.mul_le_mul_of_nonpos_left (by omega : c ≤ 0) l2
      rw [if_neg hc, if_neg hc]
      omega
theorem low_val {cs : List Int} {sp : List Rg} (hs : SpZ sp) : ValZ (lowL cs sp) ∧ ValZ (highL cs sp) := by
  induction cs generalizing sp with
  | nil => exact ⟨fun v h => by simp [lowL] at h, fun v h => by simp [highL] at h⟩
  | cons c cs ih =>
    cases sp with
    | nil => exact ⟨fun v h => by simp [lowL] at h, fun v h => by simp [highL] at h⟩
    | cons s sp =>
      obtain ⟨s1, s2, s3⟩ := hs s (by simp)
      obtain ⟨i1, i2⟩ := ih (sp := sp) fun z hz => hs z (by simp [hz])
      refine ⟨fun v h => ?_, fun v h => ?_⟩
      · rw [lowL] at h
        rcases List.mem_cons.1 h with rfl | h
        · split <;> omega
        · exact i1 v h
      · rw [highL] at h
        rcases List.mem_cons.1 h with rfl | h
        · split <;> omega
        · exact i2 v h
theorem ranged_law {t : Tm} {sp : List Rg} {vs : List Int} (hl : t.coeffs.length ≤ 8) (hn : numbersE t = 0) (hs : SpZ sp) (hv : ValZ vs) (h1 : sp.length = vs.length) (h2 : t.coeffs.length = vs.length) (h : ∀ (k : Nat) (s : Rg) (v : Int), sp[k]? = some s → vs[k]? = some v → s.lo ≤ v ∧ v ≤ s.hi) :
    (rangedR t sp).lo = valueR t (lowL t.coeffs sp) ∧ (rangedR t sp).hi = valueR t (highL t.coeffs sp) ∧ (rangedR t sp).lo ≤ valueR t vs ∧ valueR t vs ≤ (rangedR t sp).hi := by
  have hN := near_of hl hn
  obtain ⟨b1, b2⟩ := num_bd hn
  obtain ⟨v1, v2⟩ := low_val (cs := t.coeffs) hs
  have e := ranged_ends t.coeffs sp ⟨t.const, t.const⟩ 2000000000000 (by simp only; omega) (by simp only; omega) (by simp only; omega) (by simp only; omega) (by omega) b1 hs
  obtain ⟨i1, i2⟩ := ends_in t.coeffs sp vs h1 h2 h
  rw [rangedR, e, hN.val v1, hN.val v2, hN.val hv, valZ, valZ, valZ]
  simp only
  exact ⟨trivial, trivial, by omega, by omega⟩
end Go.AL

/- FormulaMoves: the law holds at all formulas, terms and values. -/
set_option linter.unusedVariables false
set_option linter.unusedSimpArgs false
namespace Go.AL
open Go.Proofs
variable {Γ : Glob}
attribute [local irreducible] codeW opsW dopsW
/-! ### Rows beside each other -/
def Apart (a b : AV) : Prop := ∀ i, Off a i ∨ Off b i
theorem Apart.symm {a b : AV} (h : Apart a b) : Apart b a := fun i => (h i).symm
theorem Apart.nilL (b : AV) : Apart (.v (.slice none 0 0)) b := fun i => .inl fun s o n e => by cases e
theorem Apart.nilR (a : AV) : Apart a (.v (.slice none 0 0)) := fun i => .inr fun s o n e => by cases e
theorem Grow.on {σ0 σ : Sig} {s n i : Nat} {a : AV} {cs : List AV} (h : Grow σ0 σ s a cs n) (hi : ¬ Off a i) : ∃ c, σ i = some (.row cs s c) := by
  rcases h with ⟨h, _⟩ | ⟨b, c, h0, h1, h2, h3⟩
  · exact absurd (fun s o n e => by rcases h with h | h <;> rw [h] at e <;> cases e) hi
  · by_cases e : i = b
    · exact ⟨c, by rw [e]; exact h2⟩
    · exact absurd (fun s o n e' => by rw [h0] at e'; cases e'; exact e rfl) hi
theorem Apart.new {σ0 σ : Sig} {s n : Nat} {a a' b : AV} {cs : List AV} (h : Apart a b) (hb : Grow σ0 σ s b cs n) (hn : ∀ i, σ i ≠ none → Off a i → Off a' i) : Apart a' b := fun i => by
  by_cases hi : Off b i
  · exact .inr hi
  · obtain ⟨c, hc⟩ := hb.on hi
    exact .inl (hn i (by rw [hc]; simp) ((h i).resolve_right hi))
theorem Grow.others {σ0 σ σ' : Sig} {s n : Nat} {a b : AV} {cs : List AV} (hb : Grow σ0 σ s b cs n) (h : Apart a b) (hO : Others a σ σ') : Grow σ0 σ' s b cs n := by
  rcases hb with h1 | ⟨b', c, h0, h1, h2, h3⟩
  · exact .inl h1
  · refine .inr ⟨b', c, h0, h1, ?_, h3⟩
    rw [hO b' ((h b').resolve_right fun hh => hh _ _ _ h0) (by rw [h2]; simp)]
    exact h2
theorem Apart.size {σ0 σ : Sig} {s s' n n' : Nat} {a b : AV} {cs cs' : List AV} (ha : Grow σ0 σ s a cs n) (hb : Grow σ0 σ s' b cs' n') (hs : s ≠ s') : Apart a b := fun i => by
  by_cases hi : Off a i
  · exact .inl hi
  · obtain ⟨c, hc⟩ := ha.on hi
    refine .inr fun s1 o m e => ?_
    have hi2 : ¬ Off b i := fun h => h _ _ _ e
    obtain ⟨c2, hc2⟩ := hb.on hi2
    rw [hc] at hc2
    cases hc2
    exact hs rfl
/-! ### The spans of the law -/
def spanV (k : Nat) (v : Int) : Rg := ⟨mx (-4294967295) (v - k), mn 4294967295 (v + 2 * k + 1)⟩
def spansV (vs : List Int) : List Rg := vs.mapIdx spanV
theorem spansV_get {vs : List Int} {k : Nat} {v : Int} (h : vs[k]? = some v) : (spansV vs)[k]? = some (spanV k v) := by rw [spansV, List.getElem?_mapIdx, h]; rfl
theorem spansV_len (vs : List Int) : (spansV vs).length = vs.length := List.length_mapIdx
theorem spanV_ok {k : Nat} {v : Int} (hk : k ≤ 1000) (hv : -4294967295 ≤ v ∧ v ≤ 4294967295) : -4294967295 ≤ (spanV k v).lo ∧ (spanV k v).lo ≤ v ∧ v ≤ (spanV k v).hi ∧ (spanV k v).hi ≤ 4294967295 := by
  unfold spanV mx mn
  simp only
  repeat' split
  all_goals omega
theorem spansV_ok {vs : List Int} (hl : vs.length ≤ 1000) (hv : ValZ vs) : SpZ (spansV vs) := fun s hs => by
  obtain ⟨k, hk⟩ := List.getElem?_of_mem hs
  have hlt := lt_of_getElem? hk
  rw [spansV_len] at hlt
  have hg : vs[k]? = some vs[k] := List.getElem?_eq_getElem hlt
  rw [spansV_get hg] at hk
  cases hk
  have := spanV_ok (k := k) (by omega) (hv _ (List.getElem_mem hlt))
  omega
theorem low_get : ∀ {cs : List Int} {sp : List Rg} {k : Nat} {c : Int} {s : Rg}, cs[k]? = some c → sp[k]? = some s → (lowL cs sp)[k]? = some (if 0 ≤ c then s.lo else s.hi) ∧ (highL cs sp)[k]? = some (if 0 ≤ c then s.hi else s.lo)
  | [], _, _, _, _, h, _ => by simp at h
  | _ :: _, [], _, _, _, _, h => by simp at h
  | c' :: cs, s' :: sp, 0, c, s, h, h' => by simp at h h'; subst h; subst h'; exact ⟨rfl, rfl⟩
  | c' :: cs, s' :: sp, k + 1, c, s, h, h' => by
    rw [lowL, highL, List.getElem?_cons_succ, List.getElem?_cons_succ]
    exact low_get (by simpa using h) (by simpa using h')
theorem low_len : ∀ (cs : List Int) (sp : List Rg), cs.length = sp.length → (lowL cs sp).length = cs.length ∧ (highL cs sp).length = cs.length
  | [], [], _ => ⟨rfl, rfl⟩
  | [], _ :: _, h => by simp at h
  | _ :: _, [], h => by simp at h
  | c :: cs, s :: sp, h => by
    obtain ⟨h1, h2⟩ := low_len cs sp (by simpa using h)
    simp [lowL, highL, h1, h2]
theorem ranged_zero {t : Tm} {sp : List Rg} (h1 : checkTermE t t.coeffs.length = 0) (h2 : sp.length = t.coeffs.length) (h3 : SpZ sp) : rangedE t sp = 0 := by
  refine (firstE_zero _).2 fun x hx => ?_
  simp only [List.mem_cons, List.not_mem_nil, or_false] at hx
  rcases hx with rfl | rfl | rfl
  · exact h1
  · simp [whenE, h2]
  · refine (firstE_zero _).2 fun y hy => ?_
    obtain ⟨s, hs, rfl⟩ := List.mem_map.1 hy
    obtain ⟨a, b, c⟩ := h3 s hs
    refine (firstE_zero _).2 fun z hz => ?_
    simp only [List.mem_cons, List.not_mem_nil, or_false] at hz
    rcases hz with rfl | rfl | rfl
    · unfold withinE; rw [if_neg (by omega)]
    · unfold withinE; rw [if_neg (by omega)]
    · unfold whenE; rw [if_neg (by simp; omega)]
theorem print_size {f : Fm} (h : checkE f = 0) (hn : f.nodes.length ≤ 12) (hs : shortFB f = true) : (printF f).size ≤ 16384 := by
  obtain ⟨hne, hl200, hv0, hv8, hok⟩ := check_ok h
  have hP : (printF f).data.toList = bVarsL ++ numsB [f.vars] ++ [10] ++ f.nodes.flatMap lineB := by
    show printL f = _
    rw [printL, lineF_data, line_eq]
    rfl
  have hlb : ∀ n ∈ f.nodes, (lineB n).length ≤ 210 := fun n hn => by
    obtain ⟨i, hi, rfl⟩ := List.getElem_of_mem hn
    have hO := hok i _ (List.getElem?_eq_getElem hi)
    obtain ⟨h1, h2⟩ := nums_ok hO hv8 (by omega)
    have h3 := nums_len h2
    have h4 := word_len (f.nodes[i]).kind
    have h5 : (numsN (f.nodes[i])).length ≤ 9 := by
      unfold numsN
      split
      · rename_i hk
        obtain ⟨_, b, _⟩ := hO.term hk
        simp only [List.length_append, List.length_cons, List.length_nil]
        omega
      · rename_i hk
        obtain ⟨_, b, _⟩ := hO.form (by omega)
        unfold shortFB at hs
        rw [Bool.and_eq_true, List.all_eq_true] at hs
        have := hs.1 _ hn
        simp [shortNdB] at this
        omega
    simp only [lineB, bodyN, List.length_append, List.length_cons, List.length_nil]
    omega
  have key : ∀ l : List Nd, (∀ n ∈ l, (lineB n).length ≤ 210) → (l.flatMap lineB).length ≤ 210 * l.length := fun l => by
    induction l with
    | nil => intro _; simp
    | cons n l ih =>
      intro h
      have h1 := ih fun m hm => h m (List.mem_cons_of_mem _ hm)
      have h2 := h n (by simp)
      simp only [List.flatMap_cons, List.length_append, List.length_cons]
      omega
  have h1 := key f.nodes hlb
  have h3 := nums_len (l := [f.vars]) (fun x hx => by rw [List.mem_singleton.1 hx]; exact ⟨by omega, by omega⟩)
  have h5 : bVarsL.length = 4 := rfl
  rw [Lib.size_eq, hP]
  simp only [List.length_append, List.length_cons, List.length_nil] at h3 ⊢
  omega
theorem moves_law {f : Fm} {l : List Tm} {vs : List Int} {r : List Nd} (hck : checkE f = 0) (hlv : (l.length : Int) = f.vars) (hv8 : varsT l ≤ 8) (htl : ∀ t ∈ l, t.coeffs.length = varsT l) (htn : ∀ t ∈ l, numbersE t = 0) (hv : ValZ vs)
    (hi : ValZ (l.map fun t => valZ t vs)) (hp : putNs l (varsT l) f.nodes [] = some r) : checkE ⟨varsT l, r⟩ = 0 ∧ holdsB ⟨varsT l, r⟩ vs = holdsB f (l.map fun t => valZ t vs) := by
  obtain ⟨hne, hl200, hv0, hv88, hok⟩ := check_ok hck
  obtain ⟨l', e1, e2, e3, e4⟩ := putNs_holds hv8 hv htl htn hi (by omega) f.nodes [] r 0 [] (fun k n hk => by rw [hlv, Nat.zero_add]; exact hok k n hk) (by omega) hp
  rw [List.nil_append] at e1
  subst e1
  refine ⟨check_of (fun e => hne (List.eq_nil_of_length_eq_zero (by simp only at e; rw [e] at e2; simpa using e2.symm))) (by simp only; omega) (by simp only; omega) (by simp only; omega) (fun i n hn => by have := e4 i n hn; rwa [Nat.zero_add] at this), ?_⟩
  rw [holdsB, holdsB, e3]
end Go.AL

/- FormulaMoves: the walk of the law. -/
set_option linter.unusedVariables false
set_option linter.unusedSimpArgs false
namespace Go.AL
open Go.Proofs
variable {Γ : Glob}
attribute [local irreducible] codeW opsW dopsW
theorem Grow.mono {σ0 σ σ' : Sig} {s n : Nat} {a : AV} {cs : List AV} (h : Grow σ0 σ s a cs n) (hs : ∀ b x, σ b = some x → σ' b = some x) : Grow σ0 σ' s a cs n := by
  rcases h with h | ⟨b, c, h0, h1, h2, h3⟩
  · exact .inl h
  · exact .inr ⟨b, c, h0, h1, hs b _ h2, h3⟩
theorem rcallB_bor {P : Program} {Γ : Glob} {f : FuncId} {a c args args' : List AV} {σ : Sig} {r : AV} {K : AV → Sig → Prop} (h : PCalls P Γ f args' r) (hr : r.flat = true) (hf : ∀ σ', (∀ b x, σ b = some x → σ' b = some x) → FzL σ' noB (a ++ args ++ c) args') (hk : K r σ) : rcallB P Γ (.fn (.func f) a c) args σ K :=
  ⟨r, fun σ' hs K hK => callB_bor h hr (hf σ' hs) hK, hk⟩
@[reducible] noncomputable def p19z (Γ : Glob) : Par := par Γ [9, 14, 22, 23, 25, 197, 205] [(5, [false, false, false, false, false, false, false, false, false, false, false, false, true]), (1000023, [true]), (23, [false, false, false, false, false, false, false, true]), (1000024, [true]), (24, [false, false, false, false, false, false, false, true]), (27, [false, false, false, false, false, false, false, false, false, false, false, false, false, false, false, false, false, false, false, true, false, false, false, false, false, false, false, true]), (36, [false, false, true])] [(5, [0, 1, 3, 7, 15, 31, 63, 127, 255, 511, 1023, 2047, 4095, 2047, 16383, 32767, 65535]), (23, [0, 0, 2, 6, 15, 0, 0, 64, 192, 511, 1023, 2047]), (24, [0, 0, 2, 6, 15, 0, 0, 64, 192, 511, 1023, 2047]), (27, [0, 1, 3, 7, 7, 23, 63, 127, 255, 511, 511, 1535, 4095, 8191, 16383, 32767, 65535, 32767, 32767, 425983, 1048575, 2097151, 4194303, 8388607, 16777215, 8388607, 8388607, 109051903, 268435455, 536870911]), (36, [0, 0, 2, 7, 15, 31, 31, 63, 255])]
theorem ok19z (Γ : Glob) : FnOk (p19z Γ) 19 258 (Tryz.f19.body.getD .skip) Tryz.f19.results.toList 3 := fnOk (par_mixed _ _ _ _) Tryz.func19 rfl rfl rfl (by kernel_rfl) (Nat.le_of_ble_eq_true rfl) (by kernel_rfl)
def innerV (l : List Tm) (vs : List Int) : List Int := l.map fun t => valZ t vs
set_option maxHeartbeats 8000000 in
set_option maxRecDepth 20000 in
theorem f19 (hG : Γ 0 = some sortsT) (hG2 : Γ 2 = some [int 0, int 0]) (hG5 : Γ 5 = some powT) (f : Fm) (l : List Tm) (vs : List Int) (hl : f.nodes.length ≤ 9223372036854775807) (hl2 : l.length ≤ 9223372036854775807) (hvl : vs.length ≤ 9223372036854775807) : PCalls Tryz.prog Γ 19 [fmA f, slT l, slI vs] (.v (.bool true)) := by
  have hf39 := f39 (Γ := Γ) f hl
  have hf52 := f52 (Γ := Γ) l hl2
  refine pcalls (ok19z Γ) fun σ => ?_
  simp only [go_sem, xQ, ↓reduceIte, xA, xM, xL, xT, xE, xN, xP, xR, xS, Tryz.f19]
  refine callB_use (hf39) rfl ?_
  simp only [go_sem, xQ, ↓reduceIte, xA, xM, xL, xT, xE, xN, xP, xR, xS]
  cases hb : shortFB f
  · simp only [go_sem, xQ, ↓reduceIte, xA, xM, xL, xT, xE, xN, xP, xR, xS, hb]
    refine callB_use (f40 hG hG2 hG5) rfl ?_
    simp only [go_sem, xQ, ↓reduceIte, xA, xM, xL, xT, xE, xN, xP, xR, xS]
  obtain ⟨hl201, hc⟩ := short_fitM hb
  simp only [go_sem, xQ, ↓reduceIte, xA, xM, xL, xT, xE, xN, xP, xR, xS, hb]
  refine callB_use (f44 f (by omega) hc) rfl ?_
  simp only [go_sem, xQ, ↓reduceIte, xA, xM, xL, xT, xE, xN, xP, xR, xS]
  by_cases hck : checkE f = 0
  case neg =>
    simp only [go_sem, xQ, ↓reduceIte, xA, xM, xL, xT, xE, xN, xP, xR, xS, hck]
    refine callB_use (f40 hG hG2 hG5) rfl ?_
    simp only [go_sem, xQ, ↓reduceIte, xA, xM, xL, xT, xE, xN, xP, xR, xS]
  by_cases h12 : (12 : Int) < f.nodes.length
  · simp only [go_sem, xQ, ↓reduceIte, xA, xM, xL, xT, xE, xN, xP, xR, xS, hck, h12]
    refine callB_use (f40 hG hG2 hG5) rfl ?_
    simp only [go_sem, xQ, ↓reduceIte, xA, xM, xL, xT, xE, xN, xP, xR, xS]
  simp only [go_sem, xQ, ↓reduceIte, xA, xM, xL, xT, xE, xN, xP, xR, xS, hck, h12]
  refine callB_use (hf52) rfl ?_
  simp only [go_sem, xQ, ↓reduceIte, xA, xM, xL, xT, xE, xN, xP, xR, xS]
  cases hts : shortTsB l
  · simp only [go_sem, xQ, ↓reduceIte, xA, xM, xL, xT, xE, xN, xP, xR, xS, hts]
    refine callB_use (f40 hG hG2 hG5) rfl ?_
    simp only [go_sem, xQ, ↓reduceIte, xA, xM, xL, xT, xE, xN, xP, xR, xS]
  obtain ⟨hln, hlc⟩ := shortTs_fits hts
  simp only [go_sem, xQ, ↓reduceIte, xA, xM, xL, xT, xE, xN, xP, xR, xS, hts]
  refine callB_use (f55 l f.vars (by omega) (fun t ht => by have := hlc t ht; omega)) rfl ?_
  simp only [go_sem, xQ, ↓reduceIte, xA, xM, xL, xT, xE, xN, xP, xR, xS]
  by_cases hct : checkTsE l f.vars = 0
  case neg =>
    simp only [go_sem, xQ, ↓reduceIte, xA, xM, xL, xT, xE, xN, xP, xR, xS, hct]
    refine callB_use (f40 hG hG2 hG5) rfl ?_
    simp only [go_sem, xQ, ↓reduceIte, xA, xM, xL, xT, xE, xN, xP, xR, xS]
  by_cases hl0 : (l.length : Int) = 0
  · simp only [go_sem, xQ, ↓reduceIte, xA, xM, xL, xT, xE, xN, xP, xR, xS, hct, hl0, slT]
    refine callB_use (f40 hG hG2 hG5) rfl ?_
    simp only [go_sem, xQ, ↓reduceIte, xA, xM, xL, xT, xE, xN, xP, xR, xS]
  obtain ⟨hP, hlv, hv8, htl⟩ := put_good hck hct
  obtain ⟨t0, ht0⟩ : ∃ t0, l[0]? = some t0 := ⟨l[0]'(by omega), List.getElem?_eq_getElem _⟩
  have hvT : varsT l = t0.coeffs.length := by
    cases l with
    | nil => simp at ht0
    | cons t l => simp at ht0; subst ht0; rfl
  have hg0 := tm_get0 ht0
  rw [Nat.zero_mul] at hg0
  have g0 : (0 : Int) < (l.length : Int) := by omega
  simp only [go_sem, xQ, ↓reduceIte, xA, xM, xL, xT, xE, xN, xP, xR, xS, hct, hl0, slT, g0, hg0]
  refine callB_use (f45 vs t0.coeffs.length (fun h => by omega)) rfl ?_
  simp only [go_sem, xQ, ↓reduceIte, xA, xM, xL, xT, xE, xN, xP, xR, xS]
  by_cases hvv : valuesE vs t0.coeffs.length = 0
  case neg =>
    simp only [go_sem, xQ, ↓reduceIte, xA, xM, xL, xT, xE, xN, xP, xR, xS, hvv]
    refine callB_use (f40 hG hG2 hG5) rfl ?_
    simp only [go_sem, xQ, ↓reduceIte, xA, xM, xL, xT, xE, xN, xP, xR, xS]
  obtain ⟨hvlen, hVZ⟩ := values_okM hvv
  have hsz := print_size hck (by omega) hb
  have h107 := f107 (Γ := Γ) hG (printF f) (by omega)
  rw [print_back hck hsz] at h107
  simp only at h107
  have htn : ∀ t ∈ l, numbersE t = 0 := fun t ht => by
    unfold checkTsE at hct
    rw [if_pos hlv] at hct
    have := (firstE_zero _).1 hct (checkTermE t (varsT l)) (List.mem_map_of_mem (f := fun t => checkTermE t (varsT l)) ht)
    exact (firstE_zero _).1 this (numbersE t) (by simp)
  simp only [go_sem, xQ, ↓reduceIte, xA, xM, xL, xT, xE, xN, xP, xR, xS, hvv]
  refine callB_use (f42 f (by omega) hc) rfl ?_
  simp only [go_sem, xQ, ↓reduceIte, xA, xM, xL, xT, xE, xN, xP, xR, xS]
  refine callB_use (f106 hG hG5 f (by omega) hc) rfl ?_
  simp only [go_sem, xQ, ↓reduceIte, xA, xM, xL, xT, xE, xN, xP, xR, xS, hck]
  refine callB_use (h107) rfl ?_
  simp only [go_sem, xQ, ↓reduceIte, xA, xM, xL, xT, xE, xN, xP, xR, xS]
  intro b9 hb9
  simp only [go_sem, xQ, ↓reduceIte, xA, xM, xL, xT, xE, xN, xP, xR, xS]
  refine dcallB_use (f111 f (by omega)) rfl ?_
  simp only [go_sem, xQ, ↓reduceIte, xA, xM, xL, xT, xE, xN, xP, xR, xS]
  refine callB_use (f110 f f (by omega) hc) rfl ?_
  simp only [go_sem, xQ, ↓reduceIte, xA, xM, xL, xT, xE, xN, xP, xR, xS, decide_true]
  have hD0 : Drop (upd σ b9 (some (.row (fmC f) 2 1))) σ := (Drop.refl σ).upd hb9
  refine SemC.loopK mixed l.length (fun i ρ σ' ds => ds = [] ∧ (ρ 1 = slT l ∧ ρ 2 = slI vs ∧ ρ 3 = .pp (fmC f) 0 ∧ ρ 102 = slT l ∧ ρ 103 = int l.length) ∧ ρ 104 = int i ∧ Drop σ' σ ∧ Grow σ σ' 1 (ρ 12) (ints (innerV (l.take i) vs)) i) (by kernel_rfl) ?_ ?_
  · exact ⟨rfl, by simp only [go_sem, xQ, ↓reduceIte, xA, xM, xL, xT, xE, xN, xP, xR, xS, slT, slI, fmC, slN], rfl, hD0, .nil _ _ _⟩
  rintro i ρ σ' ds hi ⟨rfl, H, h104, hD, hG12⟩
  obtain ⟨a12o, h12a⟩ : ∃ a, ρ 12 = a := ⟨_, rfl⟩
  rw [h12a] at hG12
  rcases get_or_end l i hi with ⟨t, ht, hlt, hd⟩ | hi
  · have htl' := htl t (mem_of_get ht)
    have htn' := htn t (mem_of_get ht)
    have htc := hlc t (mem_of_get ht)
    have hct' : checkTermE t t.coeffs.length = 0 := checkTerm_of (by omega) rfl htn'
    have hve : valueE t vs = 0 := (firstE_zero _).2 fun x hx => by
      simp only [List.mem_cons, List.not_mem_nil, or_false] at hx
      rcases hx with rfl | rfl
      · exact hct'
      · rw [show ((t.coeffs.length : Nat) : Int) = t0.coeffs.length by omega]; exact hvv
    have hN := near_of (t := t) (by omega) htn'
    have c72 := f72 (Γ := Γ) t vs (by omega) (by omega)
    rw [hve, if_pos rfl, hN.val hVZ] at c72
    simp only [go_sem, xQ, ↓reduceIte, xA, xM, xL, xT, xE, xN, xP, xR, xS, H, h104, h12a, hlt, slT, ↓tm_part ht]
    intro b14 hb14
    simp only [go_sem, xQ, ↓reduceIte, xA, xM, xL, xT, xE, xN, xP, xR, xS, H, h104, h12a, hlt, slT, ↓tm_part ht]
    refine callB_use (f60 t (by omega)) rfl ?_
    simp only [go_sem, xQ, ↓reduceIte, xA, xM, xL, xT, xE, xN, xP, xR, xS, H, h104, h12a]
    refine callB_use (f43 vs (by omega)) rfl ?_
    simp only [go_sem, xQ, ↓reduceIte, xA, xM, xL, xT, xE, xN, xP, xR, xS, H, h104, h12a]
    refine callB_use (c72) rfl ?_
    simp only [go_sem, xQ, ↓reduceIte, xA, xM, xL, xT, xE, xN, xP, xR, xS, H, h104, h12a]
    refine appB_new (m := i) (n := 1) (cs := ints (innerV (l.take i) vs)) (σ0 := σ) (appT_sl el46 tk3 by3 el46 (by decide) rfl (by decide)) (hD.upd (hD.free hb14)) (hG12.upd hb14) rfl rfl (by omega) (fun a12 σ2 hD2 hO2 hG2 hn2 => ?_)
    have q14 : σ2 b14 = some (.row (tmC t) 2 1) := by
      rw [hO2 b14 ((hG12.upd hb14).neS (cs' := tmC t) (s' := 2) (c' := 1) (upd_same _ _ _) (by decide)) (by rw [upd_same]; simp)]
      exact upd_same _ _ _
    have hG12 : Grow σ σ2 1 a12 (ints (innerV (l.take (i + 1)) vs)) (i + 1) := by
      rw [take_succ ht]
      simpa [innerV, ints, int] using hG2
    clear hG2
    simp only [go_sem, xQ, ↓reduceIte, xA, xM, xL, xT, xE, xN, xP, xR, xS, H, h104, h12a]
    refine SemC.loopK mixed vs.length (fun j ρ σ'' ds => ds = [] ∧ (ρ 1 = slT l ∧ ρ 2 = slI vs ∧ ρ 3 = .pp (fmC f) 0 ∧ ρ 14 = .v (.pointer (some ⟨b14, 0, none⟩)) ∧ ρ 12 = a12 ∧ ρ 15 = int (valZ t vs) ∧ ρ 102 = slT l ∧ ρ 103 = int l.length ∧ ρ 104 = int i ∧ ρ 122 = slI vs ∧ ρ 123 = int vs.length) ∧ ρ 124 = int j ∧ Drop σ'' σ ∧ σ'' b14 = some (.row (tmC t) 2 1) ∧ Grow σ σ'' 1 a12 (ints (innerV (l.take (i + 1)) vs)) (i + 1) ∧ Grow σ σ'' 2 (ρ 17) (((spansV vs).take j).flatMap rgC) j ∧ Grow σ σ'' 1 (ρ 18) (ints ((lowL t.coeffs (spansV vs)).take j)) j ∧ Grow σ σ'' 1 (ρ 19) (ints ((highL t.coeffs (spansV vs)).take j)) j ∧ Apart a12 (ρ 18) ∧ Apart a12 (ρ 19) ∧ Apart (ρ 18) (ρ 19) ∧ Off (ρ 17) b14) (by kernel_rfl) ?_ ?_
    · exact ⟨rfl, by simp only [go_sem, xQ, ↓reduceIte, xA, xM, xL, xT, xE, xN, xP, xR, xS, H, h104, h12a, slT, slI], rfl, hD2, q14, hG12, .nil _ _ _, .nil _ _ _, .nil _ _ _, .nilR _, .nilR _, .nilL _, fun s o n e => by cases e⟩
    rintro j ρ σ'' ds hj ⟨rfl, H2, h124, hD2, q14, hG12, hG17, hG18, hG19, A1, A2, A3, O14⟩
    obtain ⟨a17, h17⟩ : ∃ a, ρ 17 = a := ⟨_, rfl⟩
    obtain ⟨a18, h18⟩ : ∃ a, ρ 18 = a := ⟨_, rfl⟩
    obtain ⟨a19, h19⟩ : ∃ a, ρ 19 = a := ⟨_, rfl⟩
    rw [h17] at hG17 O14
    rw [h18] at hG18 A1 A3
    rw [h19] at hG19 A2 A3
    rcases get_or_end vs j hj with ⟨v, hv, hltj, hdj⟩ | hj
    · obtain ⟨c, hcg⟩ : ∃ c, t.coeffs[j]? = some c := ⟨t.coeffs[j]'(by omega), List.getElem?_eq_getElem _⟩
      have hltc := lt_of_getElem? hcg
      have hvz := hVZ v (mem_of_get hv)
      have hvg : (ints vs)[j]? = some (int v) := by rw [ints, List.getElem?_map, hv]; rfl
      have hcgi : (ints t.coeffs)[j]? = some (int c) := by rw [ints, List.getElem?_map, hcg]; rfl
      obtain ⟨s1, s2, s3, s4⟩ := spanV_ok (k := j) (by omega) hvz
      have sg := spansV_get hv
      obtain ⟨lg, hg⟩ := low_get hcg sg
      have w1 : IntKind.i64.wrap (v - j) = v - j := wrap_i64 _ (by omega) (by omega)
      have w2 : IntKind.i64.wrap (2 * (j : Int)) = 2 * j := wrap_i64 _ (by omega) (by omega)
      have w3 : IntKind.i64.wrap (v + 2 * j) = v + 2 * j := wrap_i64 _ (by omega) (by omega)
      have w4 : IntKind.i64.wrap (v + 2 * j + 1) = v + 2 * j + 1 := wrap_i64 _ (by omega) (by omega)
      obtain ⟨lo, hlo⟩ : ∃ x, (spanV j v).lo = x := ⟨_, rfl⟩
      obtain ⟨hi', hhi⟩ : ∃ x, (spanV j v).hi = x := ⟨_, rfl⟩
      have eL : (if (-4294967295 : Int) < v - j then v - j else -4294967295) = lo := hlo
      have eH : (if v + 2 * (j : Int) + 1 < 4294967295 then v + 2 * j + 1 else 4294967295) = hi' := hhi
      have erg : rgC (spanV j v) = [int lo, int hi'] := by rw [← hlo, ← hhi]; rfl
      rw [hlo, hhi] at lg hg
      simp only [go_sem, xQ, ↓reduceIte, xA, xM, xL, xT, xE, xN, xP, xR, xS, H2, h124, hltj, slI, slT, hvg, w1, w2, w3, w4]
      intro b22 hb22
      have z22 := hD2.free hb22
      have m14 : ¬ b14 = b22 := nn hb22 q14
      have m14' : ¬ b22 = b14 := fun e => m14 e.symm
      simp only [go_sem, xQ, ↓reduceIte, xA, xM, xL, xT, xE, xN, xP, xR, xS, H2, h124, w1, w2, w3, w4, eL, eH, h17]
      refine appB_new (m := j) (n := 1) (cs := ((spansV vs).take j).flatMap rgC) (σ0 := σ) (appT_sl el49 tk91 by91 el49 (by decide) rfl (by decide)) (hD2.upd z22) (hG17.upd hb22) rfl rfl (by omega) (fun a17' σ3 hD3 hO3 hG3 hn3 => ?_)
      have O22 : Off a17 b22 := hG17.neN hb22
      have p14 : σ3 b14 = some (.row (tmC t) 2 1) := by
        rw [hO3 b14 O14 (by rw [upd_ne _ _ _ _ m14, q14]; simp), upd_ne _ _ _ _ m14]; exact q14
      have p22 : σ3 b22 = some (.row [int lo, int hi'] 2 1) := by
        rw [hO3 b22 O22 (by rw [upd_same]; simp)]; exact upd_same _ _ _
      have O14' : Off a17' b14 := hn3 b14 (by rw [upd_ne _ _ _ _ m14, q14]; simp) O14
      have O22' : Off a17' b22 := hn3 b22 (by rw [upd_same]; simp) O22
      have hG12' := (hG12.upd hb22 (x := some (.row [int lo, int hi'] 2 1))).others (Apart.size (hG17.upd hb22 (x := some (.row [int lo, int hi'] 2 1))) (hG12.upd hb22 (x := some (.row [int lo, int hi'] 2 1))) (by decide)) hO3
      have hG18' := (hG18.upd hb22 (x := some (.row [int lo, int hi'] 2 1))).others (Apart.size (hG17.upd hb22 (x := some (.row [int lo, int hi'] 2 1))) (hG18.upd hb22 (x := some (.row [int lo, int hi'] 2 1))) (by decide)) hO3
      have hG19' := (hG19.upd hb22 (x := some (.row [int lo, int hi'] 2 1))).others (Apart.size (hG17.upd hb22 (x := some (.row [int lo, int hi'] 2 1))) (hG19.upd hb22 (x := some (.row [int lo, int hi'] 2 1))) (by decide)) hO3
      have hG17' : Grow σ σ3 2 a17' (((spansV vs).take (j + 1)).flatMap rgC) (j + 1) := by
        rw [take_succ sg, List.flatMap_append, List.flatMap_singleton, erg]
        exact hG3
      clear hG3
      have hG12e := hG12'.updW (hG12.neN hb22) none
      have hG17e := hG17'.updW O22' none
      have hG18e := hG18'.updW (hG18.neN hb22) none
      have hG19e := hG19'.updW (hG19.neN hb22) none
      have hD3e : Drop (upd σ3 b22 none) σ := hD3.upd z22
      have p14e : upd σ3 b22 none b14 = some (.row (tmC t) 2 1) := by rw [upd_ne _ _ _ _ m14]; exact p14
      by_cases hc0 : 0 ≤ c
      · rw [if_pos hc0] at lg hg
        simp only [go_sem, xQ, ↓reduceIte, xA, xM, xL, xT, xE, xN, xP, xR, xS, H2, h124, p14, hltc, hcgi, hc0, slI]
        refine frzB_ptr 22 b22 (by simp only [go_sem, xQ, ↓reduceIte, xA, xM, xL, xT, xE, xN, xP, xR, xS]) p22 ?_
        simp only [go_sem, xQ, ↓reduceIte, xA, xM, xL, xT, xE, xN, xP, xR, xS, H2, h124, h18, h19, ers_upd]
        refine appB_new (m := j) (n := 1) (cs := ints ((lowL t.coeffs (spansV vs)).take j)) (σ0 := σ) (appT_sl el46 tk3 by3 el46 (by decide) rfl (by decide)) hD3e hG18e rfl rfl (by omega) (fun a18' σ4 hD4 hO4 hG4 hn4 => ?_)
        have hG18f : Grow σ σ4 1 a18' (ints ((lowL t.coeffs (spansV vs)).take (j + 1))) (j + 1) := by
          rw [take_succ lg]
          simpa [ints, int] using hG4
        clear hG4
        have r14 : σ4 b14 = some (.row (tmC t) 2 1) := by
          rw [hO4 b14 (hG18e.neS p14e (by decide)) (by rw [p14e]; simp)]; exact p14e
        have hG12f := hG12e.others A1.symm hO4
        have hG19f := hG19e.others A3 hO4
        have hG17f := hG17e.others (Apart.size hG18e hG17e (by decide)) hO4
        have B1 : Apart a12 a18' := (A1.symm.new hG12e hn4).symm
        have B3 : Apart a18' a19 := A3.new hG19e hn4
        simp only [go_sem, xQ, ↓reduceIte, xA, xM, xL, xT, xE, xN, xP, xR, xS, H2, h124, h18, h19]
        refine appB_new (m := j) (n := 1) (cs := ints ((highL t.coeffs (spansV vs)).take j)) (σ0 := σ) (appT_sl el46 tk3 by3 el46 (by decide) rfl (by decide)) hD4 hG19f rfl rfl (by omega) (fun a19' σ5 hD5 hO5 hG5' hn5 => ?_)
        have hG19g : Grow σ σ5 1 a19' (ints ((highL t.coeffs (spansV vs)).take (j + 1))) (j + 1) := by
          rw [take_succ hg]
          simpa [ints, int] using hG5'
        clear hG5'
        have s14 : σ5 b14 = some (.row (tmC t) 2 1) := by
          rw [hO5 b14 (hG19f.neS r14 (by decide)) (by rw [r14]; simp)]; exact r14
        have hG12g := hG12f.others A2.symm hO5
        have hG18g := hG18f.others B3.symm hO5
        have hG17g := hG17f.others (Apart.size hG19f hG17f (by decide)) hO5
        have C2 : Apart a12 a19' := (A2.symm.new hG12f hn5).symm
        have C3 : Apart a18' a19' := (B3.symm.new hG18f hn5).symm
        simp only [go_sem, xQ, ↓reduceIte, xA, xM, xL, xT, xE, xN, xP, xR, xS, H2, h124]
        exact ⟨hltj, by rw [wrap_succ _ (by omega)], hD5, s14, hG12g, hG17g, hG18g, hG19g, B1, C2, C3, O14'⟩
      · rw [if_neg hc0] at lg hg
        simp only [go_sem, xQ, ↓reduceIte, xA, xM, xL, xT, xE, xN, xP, xR, xS, H2, h124, p14, hltc, hcgi, hc0, slI]
        refine frzB_ptr 22 b22 (by simp only [go_sem, xQ, ↓reduceIte, xA, xM, xL, xT, xE, xN, xP, xR, xS]) p22 ?_
        simp only [go_sem, xQ, ↓reduceIte, xA, xM, xL, xT, xE, xN, xP, xR, xS, H2, h124, h18, h19, ers_upd]
        refine appB_new (m := j) (n := 1) (cs := ints ((lowL t.coeffs (spansV vs)).take j)) (σ0 := σ) (appT_sl el46 tk3 by3 el46 (by decide) rfl (by decide)) hD3e hG18e rfl rfl (by omega) (fun a18' σ4 hD4 hO4 hG4 hn4 => ?_)
        have hG18f : Grow σ σ4 1 a18' (ints ((lowL t.coeffs (spansV vs)).take (j + 1))) (j + 1) := by
          rw [take_succ lg]
          simpa [ints, int] using hG4
        clear hG4
        have r14 : σ4 b14 = some (.row (tmC t) 2 1) := by
          rw [hO4 b14 (hG18e.neS p14e (by decide)) (by rw [p14e]; simp)]; exact p14e
        have hG12f := hG12e.others A1.symm hO4
        have hG19f := hG19e.others A3 hO4
        have hG17f := hG17e.others (Apart.size hG18e hG17e (by decide)) hO4
        have B1 : Apart a12 a18' := (A1.symm.new hG12e hn4).symm
        have B3 : Apart a18' a19 := A3.new hG19e hn4
        simp only [go_sem, xQ, ↓reduceIte, xA, xM, xL, xT, xE, xN, xP, xR, xS, H2, h124, h18, h19]
        refine appB_new (m := j) (n := 1) (cs := ints ((highL t.coeffs (spansV vs)).take j)) (σ0 := σ) (appT_sl el46 tk3 by3 el46 (by decide) rfl (by decide)) hD4 hG19f rfl rfl (by omega) (fun a19' σ5 hD5 hO5 hG5' hn5 => ?_)
        have hG19g : Grow σ σ5 1 a19' (ints ((highL t.coeffs (spansV vs)).take (j + 1))) (j + 1) := by
          rw [take_succ hg]
          simpa [ints, int] using hG5'
        clear hG5'
        have s14 : σ5 b14 = some (.row (tmC t) 2 1) := by
          rw [hO5 b14 (hG19f.neS r14 (by decide)) (by rw [r14]; simp)]; exact r14
        have hG12g := hG12f.others A2.symm hO5
        have hG18g := hG18f.others B3.symm hO5
        have hG17g := hG17f.others (Apart.size hG19f hG17f (by decide)) hO5
        have C2 : Apart a12 a19' := (A2.symm.new hG12f hn5).symm
        have C3 : Apart a18' a19' := (B3.symm.new hG18f hn5).symm
        simp only [go_sem, xQ, ↓reduceIte, xA, xM, xL, xT, xE, xN, xP, xR, xS, H2, h124]
        exact ⟨hltj, by rw [wrap_succ _ (by omega)], hD5, s14, hG12g, hG17g, hG18g, hG19g, B1, C2, C3, O14'⟩
    · subst hj
      have htk17 : (spansV vs).take vs.length = spansV vs := List.take_of_length_le (by rw [spansV_len]; exact Nat.le_refl _)
      obtain ⟨ll, hll⟩ := low_len t.coeffs (spansV vs) (by rw [spansV_len]; omega)
      rw [htk17] at hG17
      rw [List.take_of_length_le (by omega)] at hG18 hG19
      have hsp : SpZ (spansV vs) := spansV_ok (by omega) hVZ
      have hre := ranged_zero hct' (by rw [spansV_len]; omega) hsp
      have hrp : rangedP t (spansV vs) = rangedR t (spansV vs) := if_pos hre
      obtain ⟨r1, r2, r3, r4⟩ := ranged_law (t := t) (by omega) htn' hsp hVZ (spansV_len vs) (by omega) (fun k s v hs hv => by
        have hlt := lt_of_getElem? hv
        rw [spansV_get hv] at hs
        cases hs
        have := spanV_ok (k := k) (by omega) (hVZ v (mem_of_get hv))
        exact ⟨this.2.1, this.2.2.1⟩)
      rw [hN.val hVZ] at r3 r4
      have c59 := f59 (Γ := Γ) t (spansV vs) (by omega) (by rw [spansV_len]; omega)
      rw [hre, hrp] at c59
      have c78l := f78 (Γ := Γ) t (lowL t.coeffs (spansV vs)) (by omega) (by omega)
      have c78h := f78 (Γ := Γ) t (highL t.coeffs (spansV vs)) (by omega) (by omega)
      rw [← r1] at c78l
      rw [← r2] at c78h
      generalize rangedR t (spansV vs) = rg at c59 c78l c78h r1 r2 r3 r4
      have n1 : ¬ valZ t vs < rg.lo := by omega
      have n2 : ¬ rg.hi < valZ t vs := by omega
      simp only [go_sem, xQ, ↓reduceIte, xA, xM, xL, xT, xE, xN, xP, xR, xS, H2, h124, Nat.lt_irrefl, q14, slI]
      refine callB_use (f60 t (by omega)) rfl ?_
      simp only [go_sem, xQ, ↓reduceIte, xA, xM, xL, xT, xE, xN, xP, xR, xS, H2, h124, h17, h18, h19]
      refine callB_bor c59 rfl (.cons (.refl _) (.cons (by rw [slR, spansV_len]; exact hG17.toNo2) .nil)) ?_
      simp only [go_sem, xQ, ↓reduceIte, xA, xM, xL, xT, xE, xN, xP, xR, xS, H2, h124, h17, h18, h19]
      intro b23 hb23
      have m14 : ¬ b14 = b23 := nn hb23 q14
      have m14' : ¬ b23 = b14 := fun e => m14 e.symm
      have z23 := hD2.free hb23
      simp only [go_sem, xQ, ↓reduceIte, xA, xM, xL, xT, xE, xN, xP, xR, xS, H2, h124, h17, h18, h19, m14, m14', n1, n2, q14]
      refine rcallB_bor c78l rfl (fun σ1 hs => .cons (.refl _) (.cons (by rw [slI, ll, show t.coeffs.length = vs.length by omega]; exact ((hG18.upd hb23).mono hs).toNo2) .nil)) ?_
      simp only [go_sem, xQ, ↓reduceIte, xA, xM, xL, xT, xE, xN, xP, xR, xS, H2, h124, h17, h18, h19, m14, m14', n1, n2, q14]
      refine rcallB_bor c78h rfl (fun σ1 hs => .cons (.refl _) (.cons (by rw [slI, hll, show t.coeffs.length = vs.length by omega]; exact ((hG19.upd hb23).mono hs).toNo2) .nil)) ?_
      simp only [go_sem, xQ, ↓reduceIte, xA, xM, xL, xT, xE, xN, xP, xR, xS, H2, h124, h17, h18, h19, m14, m14', n1, n2, q14]
      exact ⟨hlt, by rw [wrap_succ _ (by omega)], hD2.upd z23, hG12.upd hb23⟩
  · subst hi
    rw [List.take_length] at hG12
    have hfi : Fits (innerV l vs).length := by rw [innerV, List.length_map]; omega
    have hil : (innerV l vs).length = l.length := by rw [innerV, List.length_map]
    have h53 := f53 (Γ := Γ) hG f l (by omega) hc (by omega) (fun t ht => by have := hlc t ht; omega)
    rw [hP, put56] at h53
    simp only [go_sem, xQ, ↓reduceIte, xA, xM, xL, xT, xE, xN, xP, xR, xS, H, h104, h12a, Nat.lt_irrefl, slT]
    refine callB_use (f42 f (by omega) hc) rfl ?_
    simp only [go_sem, xQ, ↓reduceIte, xA, xM, xL, xT, xE, xN, xP, xR, xS, H, h104, h12a]
    refine callB_use (f54 l (by omega) (fun t ht => by have := hlc t ht; omega)) rfl ?_
    simp only [go_sem, xQ, ↓reduceIte, xA, xM, xL, xT, xE, xN, xP, xR, xS, H, h104, h12a]
    cases hp : putNs l (varsT l) f.nodes [] with
    | none =>
      rw [hp] at h53
      refine callB_use (h53) rfl ?_
      simp only [go_sem, xQ, ↓reduceIte, xA, xM, xL, xT, xE, xN, xP, xR, xS, H, h104, h12a, fm0]
      intro b25 hb25
      have z25 := hD.free hb25
      have e40 : ¬ (4 : Int) = 0 := by decide
      simp only [go_sem, xQ, ↓reduceIte, xA, xM, xL, xT, xE, xN, xP, xR, xS, H, h104, h12a, e40]
      refine callB_use (f40 hG hG2 hG5) rfl ?_
      simp only [go_sem, xQ, ↓reduceIte, xA, xM, xL, xT, xE, xN, xP, xR, xS]
      exact retP_drop (by repeat (first | exact hD | exact Drop.refl _ | assumption | refine Drop.upd ?_ (by assumption))) rfl
    | some r =>
      rw [hp] at h53
      refine callB_use (h53) rfl ?_
      simp only [go_sem, xQ, ↓reduceIte, xA, xM, xL, xT, xE, xN, xP, xR, xS, H, h104, h12a]
      intro b25 hb25
      have z25 := hD.free hb25
      simp only [go_sem, xQ, ↓reduceIte, xA, xM, xL, xT, xE, xN, xP, xR, xS, H, h104, h12a]
      refine callB_bor (f45 (innerV l vs) f.vars (fun _ => hfi)) rfl (.cons (by rw [slI, hil]; exact (hG12.upd hb25).toNo2) (.cons (.refl _) .nil)) ?_
      by_cases hvi : valuesE (innerV l vs) f.vars = 0
      · have hvZ := (values_okM hvi).2
        obtain ⟨g1, g2⟩ := moves_law hck hlv hv8 htl htn hVZ hvZ hp
        have c41 := f41ok (Γ := Γ) hG hck hvi hc
        have c41g := f41ok (Γ := Γ) (f := ⟨varsT l, r⟩) (vs := vs) hG g1 (by show valuesE vs (varsT l) = 0; rw [hvT]; exact hvv) (fit_of g1).2
        rw [g2] at c41g
        have hin : (l.map fun t => valZ t vs) = innerV l vs := rfl
        rw [hin] at c41g
        generalize holdsB f (innerV l vs) = hb2 at c41 c41g
        simp only [go_sem, xQ, ↓reduceIte, xA, xM, xL, xT, xE, xN, xP, xR, xS, H, h104, h12a, hvi]
        refine callB_use (f42 f (by omega) hc) rfl ?_
        simp only [go_sem, xQ, ↓reduceIte, xA, xM, xL, xT, xE, xN, xP, xR, xS, H, h104, h12a]
        refine callB_bor c41 rfl (.cons (.refl _) (.cons (by rw [slI, hil]; exact (hG12.upd hb25).toNo2) .nil)) ?_
        simp only [go_sem, xQ, ↓reduceIte, xA, xM, xL, xT, xE, xN, xP, xR, xS, H, h104, h12a]
        refine dcallB_use (f43 vs (by omega)) rfl ?_
        simp only [go_sem, xQ, ↓reduceIte, xA, xM, xL, xT, xE, xN, xP, xR, xS, H, h104, h12a]
        refine callB_use (c41g) rfl ?_
        simp only [go_sem, xQ, ↓reduceIte, xA, xM, xL, xT, xE, xN, xP, xR, xS, H, h104, h12a]
        cases hb2
        · have y1 : (false == false) = true := rfl
          simp only [go_sem, xQ, ↓reduceIte, xA, xM, xL, xT, xE, xN, xP, xR, xS, H, h104, h12a, y1]
          refine callB_use (f40 hG hG2 hG5) rfl ?_
          simp only [go_sem, xQ, ↓reduceIte, xA, xM, xL, xT, xE, xN, xP, xR, xS]
          exact retP_drop (by repeat (first | exact hD | exact Drop.refl _ | assumption | refine Drop.upd ?_ (by assumption))) rfl
        · have y1 : (true == true) = true := rfl
          simp only [go_sem, xQ, ↓reduceIte, xA, xM, xL, xT, xE, xN, xP, xR, xS, H, h104, h12a, y1]
          refine callB_use (f40 hG hG2 hG5) rfl ?_
          simp only [go_sem, xQ, ↓reduceIte, xA, xM, xL, xT, xE, xN, xP, xR, xS]
          exact retP_drop (by repeat (first | exact hD | exact Drop.refl _ | assumption | refine Drop.upd ?_ (by assumption))) rfl
      · simp only [go_sem, xQ, ↓reduceIte, xA, xM, xL, xT, xE, xN, xP, xR, xS, H, h104, h12a, hvi]
        refine callB_use (f40 hG hG2 hG5) rfl ?_
        simp only [go_sem, xQ, ↓reduceIte, xA, xM, xL, xT, xE, xN, xP, xR, xS]
        exact retP_drop (by repeat (first | exact hD | exact Drop.refl _ | assumption | refine Drop.upd ?_ (by assumption))) rfl
end Go.AL
