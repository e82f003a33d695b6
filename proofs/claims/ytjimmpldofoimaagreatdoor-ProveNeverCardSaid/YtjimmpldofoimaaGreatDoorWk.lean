import Derived.Test.YtjimmpldofoimaaGreatDoorWi
set_option linter.unusedVariables false
set_option linter.unusedSimpArgs false
namespace Go.AL
open Go.Proofs
variable {Γ : Glob}
attribute [local irreducible] codeW opsW dopsW
end Go.AL

namespace Go.AL
open Go.Proofs
theorem roundT_Vs {t : Tm} {m : Nat} (h : TmOk t m) : ∀ (cs : List Int) (k : Nat) (ch : Bool) (sp : List Rg), t.coeffs.drop k = cs → sp.length = m → Vs sp → (roundT t k cs ch sp).1 = false → Vs (roundT t k cs ch sp).2.2
 | [], k, ch, sp, _, _, hV, _ => hV
 | c :: cs, k, ch, sp, hd, hs, hV, he => by
  have hk : t.coeffs[k]? = some c := by
   have := congrArg (·[0]?) hd
   simpa using this
  have hd' : t.coeffs.drop (k + 1) = cs := by
   have := congrArg (List.drop 1) hd
   simpa [List.drop_drop, Nat.add_comm] using this
  rw [roundT] at he ⊢
  by_cases h0 : c = 0
  ·rw [if_pos h0] at he ⊢
   exact roundT_Vs h cs (k + 1) ch sp hd' hs hV he
  ·rw [if_neg h0] at he ⊢
   have hlt : k < sp.length := by rw [hs, ← h.len]; exact lt_of_getElem? hk
   obtain ⟨x, hx⟩ : ∃ x, sp[k]? = some x := ⟨sp[k], List.getElem?_eq_getElem hlt⟩
   rw [hx] at he ⊢
   simp only at he ⊢
   by_cases hz : sizeP (narrowP t sp k c x) < 0
   ·rw [if_pos hz] at he
    cases he
   ·rw [if_neg hz] at he ⊢
    exact roundT_Vs h cs (k + 1) _ _ hd' (by rw [List.length_set]; exact hs) (hV.narrow h hs hk h0 hx hz) he
theorem roundP_Vs {m : Nat} : ∀ (l : List Tm) (ch : Bool) (sp : List Rg), (∀ t ∈ l, TmOk t m) → sp.length = m → Vs sp → (roundP l ch sp).1 = false → Vs (roundP l ch sp).2.2
 | [], _, _, _, _, hV, _ => hV
 | t :: l, ch, sp, h, hs, hV, he => by
  rw [roundP] at he ⊢
  have ht := h t List.mem_cons_self
  by_cases hr : (roundT t 0 t.coeffs ch sp).1 = true
  ·rw [if_pos hr] at he
   rw [hr] at he
   cases he
  ·rw [if_neg hr] at he ⊢
   have hr' : (roundT t 0 t.coeffs ch sp).1 = false := by simpa using hr
   exact roundP_Vs l _ _ (fun t' h' => h t' (List.mem_cons_of_mem _ h')) (by rw [roundT_len]; exact hs) (roundT_Vs ht _ 0 ch sp rfl hs hV hr') he
theorem roundsP_Vs {m : Nat} {l : List Tm} (h : ∀ t ∈ l, TmOk t m) : ∀ (n : Nat) (sp s : List Rg), sp.length = m → Vs sp → roundsP l n sp = some s → s.length = m ∧ Vs s
 | 0, sp, s, hs, hV, he => by cases he; exact ⟨hs, hV⟩
 | n + 1, sp, s, hs, hV, he => by
  rw [roundsP] at he
  by_cases hr : (roundP l false sp).1 = true
  ·rw [if_pos hr] at he; cases he
  ·rw [if_neg hr] at he
   have hr' : (roundP l false sp).1 = false := by simpa using hr
   have h1 := roundP_Vs l false sp h hs hV hr'
   have h2 : (roundP l false sp).2.2.length = m := by rw [roundP_len]; exact hs
   split at he
   ·exact roundsP_Vs h n _ s h2 h1 he
   ·cases he; exact ⟨h2, h1⟩
theorem narrowedP_some {m : Nat} {l : List Tm} (h : ∀ t ∈ l, TmOk t m) {sp s : List Rg} (hs : sp.length = m) (hV : Vs sp) (he : narrowedP l sp = some s) : s.length = m ∧ Vs s ∧ (l.any fun t => decide (greatP t s (-1) < 0)) = false := by
 unfold narrowedP at he
 cases hr : roundsP l 20 sp with
 | none => rw [hr] at he; cases he
 | some s' =>
  rw [hr] at he
  simp only at he
  split at he
  ·cases he
  ·rename_i hn
   cases he
   have := roundsP_Vs h 20 sp s hs hV hr
   exact ⟨this.1, this.2, by simpa using hn⟩
def widestR (s : List Rg) : Nat → List Rg → Nat → Nat
 | _, [], w => w
 | k, r :: rs, w => widestR s (k + 1) rs (match s[w]? with
   | none => w
   | some x => if sizeP x < sizeP r then k else w)
def WRel (s : List Rg) (w : Int) (w' : Nat) : Prop := ∃ x, s[w']? = some x ∧ ((w = -1 ∧ sizeP x = 0) ∨ (w = w' ∧ 0 < sizeP x))
theorem widest_rel {s : List Rg} : ∀ (rs : List Rg) (k : Nat) (w : Int) (w' : Nat), s.drop k = rs → (∀ r ∈ rs, 0 ≤ sizeP r) → WRel s w w' → WRel s (widestP s k rs w) (widestR s k rs w')
 | [], _, _, _, _, _, h => h
 | r :: rs, k, w, w', hd, hz, ⟨x, hx, h⟩ => by
  have hk : s[k]? = some r := by
   have := congrArg (·[0]?) hd
   simpa using this
  have hd' : s.drop (k + 1) = rs := by
   have := congrArg (List.drop 1) hd
   simpa [List.drop_drop, Nat.add_comm] using this
  have hr := hz r List.mem_cons_self
  rw [widestP, widestR, hx]
  simp only
  refine widest_rel rs (k + 1) _ _ hd' (fun r h => hz r (List.mem_cons_of_mem _ h)) ?_
  rcases h with ⟨hw, h0⟩ | ⟨hw, h0⟩
  ·by_cases hp : 0 < sizeP r
   ·rw [if_pos hp, if_pos (show w < 0 by omega), if_pos (by omega)]
    exact ⟨r, hk, .inr ⟨rfl, hp⟩⟩
   ·rw [if_neg hp, if_neg (by omega)]
    exact ⟨x, hx, .inl ⟨hw, h0⟩⟩
  ·have hwn : ¬ w < 0 := by omega
   by_cases hp : 0 < sizeP r
   ·rw [if_pos hp, if_neg hwn, hw, Int.toNat_natCast, hx]
    simp only
    by_cases hc : sizeP x < sizeP r
    ·rw [if_pos hc, if_pos hc]
     exact ⟨r, hk, .inr ⟨rfl, hp⟩⟩
    ·rw [if_neg hc, if_neg hc]
     exact ⟨x, hx, .inr ⟨rfl, h0⟩⟩
   ·rw [if_neg hp, if_neg (by omega)]
    exact ⟨x, hx, .inr ⟨hw, h0⟩⟩
theorem Vs.size {s : List Rg} (h : Vs s) {r : Rg} (hr : r ∈ s) : sizeP r = r.hi - r.lo ∧ 0 ≤ sizeP r := by
 have := h r hr
 unfold sizeP
 rw [wrap_i64 _ (by omega) (by omega)]
 omega
theorem widest_both {s : List Rg} (hV : Vs s) (hne : s ≠ []) : WRel s (widestP s 0 s (-1)) (widestR s 0 s 0) := by
 obtain ⟨x, rs, rfl⟩ : ∃ x rs, s = x :: rs := by
  cases s with
  | nil => exact absurd rfl hne
  | cons x rs => exact ⟨x, rs, rfl⟩
 have hsz : ∀ r ∈ (x :: rs), 0 ≤ sizeP r := fun r hr => (hV.size hr).2
 rw [widestP, widestR]
 simp only [List.getElem?_cons_zero, Int.lt_irrefl, if_false]
 refine widest_rel rs 1 _ _ rfl (fun r hr => hsz r (List.mem_cons_of_mem _ hr)) ?_
 have h0 := hsz x List.mem_cons_self
 by_cases hp : 0 < sizeP x
 ·rw [if_pos hp, if_pos (by decide)]
  exact ⟨x, rfl, .inr ⟨rfl, hp⟩⟩
 ·rw [if_neg hp]
  exact ⟨x, rfl, .inl ⟨rfl, by omega⟩⟩
theorem widestP_neg {s : List Rg} : ∀ (rs : List Rg) (k : Nat) (w : Int), widestP s k rs w < 0 → w < 0 ∧ ∀ r ∈ rs, ¬ 0 < sizeP r
 | [], _, _, h => ⟨h, fun r hr => by cases hr⟩
 | r :: rs, k, w, h => by
  rw [widestP] at h
  obtain ⟨h1, h2⟩ := widestP_neg rs (k + 1) _ h
  by_cases hp : 0 < sizeP r
  ·rw [if_pos hp] at h1
   by_cases hw : w < 0
   ·rw [if_pos hw] at h1; omega
   ·rw [if_neg hw] at h1
    split at h1
    ·exact absurd h1 hw
    ·split at h1
     ·omega
     ·exact absurd h1 hw
  ·rw [if_neg hp] at h1
   refine ⟨h1, fun y hy => ?_⟩
   rcases List.mem_cons.1 hy with rfl | hy
   ·exact hp
   ·exact h2 y hy
theorem value_great {s : List Rg} (hV : Vs s) (hp : ∀ r ∈ s, r.lo = r.hi) : ∀ (cs : List Int) (k : Nat) (n : Int), Cs cs → cs.length + k = s.length → valueF cs ((s.drop k).map (·.lo)) n = greatF s (-1) k cs n
 | [], k, n, _, _ => by simp [valueF, greatF]
 | c :: cs, k, n, hc, hl => by
  obtain ⟨r, hr, hd⟩ := drop_get (l := s) (k := k) (by simp only [List.length_cons] at hl; omega)
  have hv := hV r (mem_of_get hr)
  have hcc := hc c List.mem_cons_self
  have heq := hp r (mem_of_get hr)
  have hb := mul_bound (h := r.lo) hcc (by omega)
  have hk : ¬ ((k : Int) = -1) := by omega
  rw [great_cons hr hcc hv, if_neg hk, hd, List.map_cons, valueF, value_great hV hp cs (k + 1) _ (fun x hx => hc x (List.mem_cons_of_mem _ hx)) (by simp only [List.length_cons] at hl; omega)]
  congr 2
  rw [wrap_i64 (c * r.lo) (by omega) (by omega)]
  unfold prodP
  rw [heq]
  split <;> rfl
theorem model_of_points {m : Nat} {l : List Tm} (h : ∀ t ∈ l, TmOk t m) {s : List Rg} (hs : s.length = m) (hV : Vs s) (hp : ∀ r ∈ s, r.lo = r.hi) (ha : (l.any fun t => decide (greatP t s (-1) < 0)) = false) : modelB l (s.map (·.lo)) = true := by
 have he : (l.any fun t => decide (valueR t (s.map (·.lo)) < 0)) = l.any fun t => decide (greatP t s (-1) < 0) := by
  clear ha
  induction l with
  | nil => rfl
  | cons t l ih =>
   have ht := h t List.mem_cons_self
   have := value_great hV hp t.coeffs 0 t.const ht.cs (by rw [ht.len, hs]; rfl)
   rw [List.any_cons, List.any_cons, ih fun t' h' => h t' (List.mem_cons_of_mem _ h')]
   unfold valueR greatP
   rw [List.drop_zero] at this
   rw [this]
 rw [modelB, he, ha]
 rfl
variable {Γ : Glob}
attribute [local irreducible] codeW opsW dopsW
theorem floor_half {a : Int} (h1 : -9000000000 ≤ a) (h2 : a ≤ 9000000000) : 2 * floorP a 2 ≤ a ∧ a < 2 * floorP a 2 + 2 := by
 have e := Int.mul_tdiv_add_tmod a 2
 have l1 := Int.tmod_lt_of_pos a (b := 2) (by decide)
 have l2 := Int.lt_tmod_of_pos a (b := 2) (by decide)
 have h := tdiv_bound (r := a) (c := 2) (by decide)
 unfold floorP
 rw [wrap_i64 (a.tdiv 2) (by omega) (by omega), wrap_i64 (a.tdiv 2 - 1) (by omega) (by omega)]
 split <;> omega
theorem tmOk_of {t : Tm} {m : Nat} (h : checkTermE t m = 0) (hl : t.coeffs.length = m) (hm : m ≤ 8) : TmOk t m := by
 refine ⟨hl, hm, coeffs_ok h, ?_, ?_⟩ <;>
 ·have h1 := (firstE_zero _).1 h (numbersE t) (by simp)
  have h2 := (firstE_zero _).1 h1 (withinE t.const (-1000000000000) 1000000000000) (by simp)
  unfold withinE at h2
  split at h2
  ·simp at h2
  ·omega
end Go.AL
