import Derived.Test.YtjimmpldofoimaaGreatDoorWk
import Derived.Test.YtjimmpldofoimaaGreatDoorWl
set_option linter.unusedVariables false
set_option linter.unusedSimpArgs false
namespace Go.AL
open Go.Proofs
def dotX : List Int → List Int → Int
 | c :: cs, v :: vs => c * v + dotX cs vs
 | _, _ => 0
def valX (t : Tm) (vs : List Int) : Int := t.const + dotX t.coeffs vs
def Val (vs : List Int) : Prop := ∀ v ∈ vs, -4294967295 ≤ v ∧ v ≤ 4294967295
theorem valueF_eq : ∀ (cs vs : List Int) (n B : Int), -B ≤ n → n ≤ B → B + cs.length * 4294967295000000 ≤ 9000000000000000000 → Cs cs → Val vs → valueF cs vs n = n + dotX cs vs
 | [], _, n, _, _, _, _, _, _ => by simp [valueF, dotX]
 | _ :: _, [], n, _, _, _, _, _, _ => by simp [valueF, dotX]
 | c :: cs, v :: vs, n, B, h1, h2, hB, hc, hv => by
  have hcc := hc c List.mem_cons_self
  have hvv := hv v List.mem_cons_self
  have hp := mul_bound hcc hvv
  simp only [List.length_cons] at hB
  rw [valueF, dotX, wrap_i64 (c * v) (by omega) (by omega), wrap_i64 (n + c * v) (by omega) (by omega)]
  rw [valueF_eq cs vs (n + c * v) (B + 4294967295000000) (by omega) (by omega) (by omega) (fun x hx => hc x (List.mem_cons_of_mem _ hx)) (fun x hx => hv x (List.mem_cons_of_mem _ hx))]
  omega
theorem valueR_eq {t : Tm} {m : Nat} (h : TmOk t m) {vs : List Int} (hv : Val vs) : valueR t vs = valX t vs := by
 have h1 := h.lo
 have h2 := h.hi
 have h3 := h.len
 have h4 := h.le
 exact valueF_eq t.coeffs vs t.const 1000000000000 (by omega) h2 (by omega) h.cs hv
def InS (vs : List Int) (sp : List Rg) : Prop := vs.length = sp.length ∧ ∀ (i : Nat) v r, vs[i]? = some v → sp[i]? = some r → r.lo ≤ v ∧ v ≤ r.hi
def SubS (s sp : List Rg) : Prop := s.length = sp.length ∧ ∀ (i : Nat) a b, s[i]? = some a → sp[i]? = some b → b.lo ≤ a.lo ∧ a.hi ≤ b.hi
theorem SubS.refl (s : List Rg) : SubS s s := ⟨rfl, fun i a b h k => by rw [h] at k; cases k; omega⟩
theorem get_of_len {α β : Type} {a : List α} {b : List β} (h : a.length = b.length) {i : Nat} {x : α} (hx : a[i]? = some x) : ∃ y, b[i]? = some y :=
 ⟨b[i]'(by rw [← h]; exact lt_of_getElem? hx), List.getElem?_eq_getElem _⟩
theorem SubS.trans {s t u : List Rg} (h : SubS s t) (k : SubS t u) : SubS s u := ⟨h.1.trans k.1, fun i a b ha hb => by
 obtain ⟨c, hc⟩ := get_of_len h.1 ha
 have h1 := h.2 i a c ha hc
 have h2 := k.2 i c b hc hb
 omega⟩
theorem InS.sub {vs : List Int} {s t : List Rg} (h : InS vs s) (k : SubS s t) : InS vs t := ⟨h.1.trans k.1, fun i v b ha hb => by
 obtain ⟨c, hc⟩ := get_of_len h.1 ha
 have h1 := h.2 i v c ha hc
 have h2 := k.2 i c b hc hb
 omega⟩
theorem SubS.set {s : List Rg} {i : Nat} {x y : Rg} (hx : s[i]? = some x) (h1 : x.lo ≤ y.lo) (h2 : y.hi ≤ x.hi) : SubS (s.set i y) s := ⟨by simp, fun k a b ha hb => by
 rw [List.getElem?_set] at ha
 split at ha
 ·subst_vars
  split at ha
  ·cases ha
   rw [hx] at hb
   cases hb
   exact ⟨h1, h2⟩
  ·cases ha
 ·rw [ha] at hb
  cases hb
  omega⟩
theorem InS.set {vs : List Int} {s : List Rg} (h : InS vs s) {i : Nat} {v : Int} {y : Rg} (hv : vs[i]? = some v) (h1 : y.lo ≤ v) (h2 : v ≤ y.hi) : InS vs (s.set i y) := ⟨by simp [h.1], fun k a b ha hb => by
 rw [List.getElem?_set] at hb
 split at hb
 ·subst_vars
  split at hb
  ·cases hb
   rw [hv] at ha
   cases ha
   exact ⟨h1, h2⟩
  ·cases hb
 ·exact h.2 k a b ha hb⟩
theorem InS.val {vs : List Int} {s : List Rg} (h : InS vs s) (hV : Vs s) : Val vs := fun v hv => by
 obtain ⟨i, hi⟩ := List.mem_iff_getElem?.1 hv
 obtain ⟨r, hr⟩ := get_of_len h.1 hi
 have h1 := h.2 i v r hi hr
 have h2 := hV r (mem_of_get hr)
 omega
theorem prod_ge {c v : Int} {r : Rg} (h1 : r.lo ≤ v) (h2 : v ≤ r.hi) : c * v ≤ prodP c r := by
 unfold prodP
 split
 ·exact Int.mul_le_mul_of_nonneg_left h2 (by omega)
 ·exact Int.mul_le_mul_of_nonpos_left (by omega) h1
theorem great_ge {sp : List Rg} {vs : List Int} (hV : Vs sp) (hI : InS vs sp) (w : Int) : ∀ (cs : List Int) (k : Nat) (n B : Int), -B ≤ n → n ≤ B → B + cs.length * 4294967295000000 ≤ 9000000000000000000 → Cs cs → cs.length + k = sp.length →
  n + dotX (zat w k cs) (vs.drop k) ≤ greatF sp w k cs n
 | [], k, n, B, _, _, _, _, _ => by simp [greatF, zat, dotX]
 | c :: cs, k, n, B, h1, h2, hB, hc, hl => by
  simp only [List.length_cons] at hB hl
  obtain ⟨r, hr, hd⟩ := drop_get (l := sp) (k := k) (by omega)
  obtain ⟨v, hv, hdv⟩ := drop_get (l := vs) (k := k) (by rw [hI.1]; omega)
  have hvr := hI.2 k v r hv hr
  have hv' := hV r (mem_of_get hr)
  have hcc := hc c List.mem_cons_self
  have hp := prodP_bound hcc hv'
  have hge := prod_ge (c := c) hvr.1 hvr.2
  rw [great_cons hr hcc hv', zat, hdv, dotX]
  by_cases hk : (k : Int) = w
  ·rw [if_pos hk, if_pos hk]
   have := great_ge hV hI w cs (k + 1) n (B + 4294967295000000) (by omega) (by omega) (by omega) (fun x hx => hc x (List.mem_cons_of_mem _ hx)) (by omega)
   rw [Int.zero_mul, Int.zero_add]
   exact this
  ·rw [if_neg hk, if_neg hk, wrap_i64 (n + prodP c r) (by omega) (by omega)]
   have := great_ge hV hI w cs (k + 1) (n + prodP c r) (B + 4294967295000000) (by omega) (by omega) (by omega) (fun x hx => hc x (List.mem_cons_of_mem _ hx)) (by omega)
   omega
theorem dot_set : ∀ (cs vs : List Int) (i : Nat) (c v : Int), cs[i]? = some c → vs[i]? = some v → dotX (cs.set i 0) vs = dotX cs vs - c * v
 | [], _, _, _, _, h, _ => by simp at h
 | _ :: _, [], _, _, _, _, h => by simp at h
 | c' :: cs, v' :: vs, 0, c, v, h, k => by
  simp at h k
  subst h
  subst k
  simp [dotX]
  omega
 | c' :: cs, v' :: vs, i + 1, c, v, h, k => by
  simp at h k
  rw [List.set_cons_succ, dotX, dotX, dot_set cs vs i c v h k]
  omega
theorem TmOk.great_val {t : Tm} {m : Nat} (h : TmOk t m) {sp : List Rg} {vs : List Int} (hV : Vs sp) (hs : sp.length = m) (hI : InS vs sp) : valX t vs ≤ greatP t sp (-1) := by
 have h1 := h.lo
 have h2 := h.hi
 have h3 := h.len
 have h4 := h.le
 have := great_ge hV hI (-1) t.coeffs 0 t.const 1000000000000 (by omega) h2 (by omega) h.cs (by omega)
 rwa [zat_none, List.drop_zero] at this
theorem TmOk.great_at {t : Tm} {m : Nat} (h : TmOk t m) {sp : List Rg} {vs : List Int} (hV : Vs sp) (hs : sp.length = m) (hI : InS vs sp) {i : Nat} {c v : Int} (hc : t.coeffs[i]? = some c) (hv : vs[i]? = some v) : valX t vs - c * v ≤ greatP t sp i := by
 have h1 := h.lo
 have h2 := h.hi
 have h3 := h.len
 have h4 := h.le
 have := great_ge hV hI (i : Int) t.coeffs 0 t.const 1000000000000 (by omega) h2 (by omega) h.cs (by omega)
 have hz := zat_set t.coeffs 0 i
 rw [Nat.zero_add] at hz
 rw [hz, List.drop_zero, dot_set _ _ _ _ _ hc hv] at this
 unfold valX greatP
 omega
theorem floorP_spec {r c : Int} (hc : 1 ≤ c) (h1 : -40000000000000000 ≤ r) (h2 : r ≤ 40000000000000000) : c * floorP r c ≤ r ∧ r < c * floorP r c + c := by
 have e := Int.mul_tdiv_add_tmod r c
 have l1 := Int.tmod_lt_of_pos r (b := c) (by omega)
 have l2 := Int.lt_tmod_of_pos r (b := c) (by omega)
 have h := tdiv_bound (r := r) hc
 unfold floorP
 rw [wrap_i64 (r.tdiv c) (by omega) (by omega), wrap_i64 (r.tdiv c - 1) (by omega) (by omega)]
 split
 ·rw [Int.mul_sub, Int.mul_one]; omega
 ·omega
theorem TmOk.keep {t : Tm} {m : Nat} (h : TmOk t m) {sp : List Rg} {vs : List Int} (hV : Vs sp) (hs : sp.length = m) (hI : InS vs sp) (h0 : 0 ≤ valX t vs) {i : Nat} {c : Int} (hc : t.coeffs[i]? = some c) (hc0 : c ≠ 0) {x : Rg} {v : Int} (hx : sp[i]? = some x) (hv : vs[i]? = some v) :
  (narrowP t sp i c x).lo ≤ v ∧ v ≤ (narrowP t sp i c x).hi := by
 have hg := h.great hV hs i
 have hat := h.great_at hV hs hI hc hv
 have hin := hI.2 i v x hv hx
 have hcc := h.cs c (mem_of_get hc)
 unfold narrowP
 split
 ·rename_i hpos
  have hf := floorP_spec (c := c) (by omega) hg.1 hg.2
  have hb := floorP_bound (c := c) (by omega) hg.1 hg.2
  rw [wrap_i64 (0 - floorP (greatP t sp i) c) (by omega) (by omega)]
  have key : 0 - floorP (greatP t sp i) c ≤ v := by
   have : c * (-floorP (greatP t sp i) c - 1) < c * v := by
    rw [Int.mul_sub, Int.mul_one, Int.mul_neg]
    omega
   have := Int.lt_of_mul_lt_mul_left this (by omega)
   omega
  simp only
  split <;> omega
 ·rename_i hneg
  rw [wrap_i64 (0 - c) (by omega) (by omega)]
  have hf := floorP_spec (c := 0 - c) (by omega) hg.1 hg.2
  have key : v ≤ floorP (greatP t sp i) (0 - c) := by
   have : (0 - c) * v < (0 - c) * (floorP (greatP t sp i) (0 - c) + 1) := by
    rw [Int.mul_add, Int.mul_one, Int.sub_mul 0 c v, Int.zero_mul]
    omega
   have := Int.lt_of_mul_lt_mul_left this (by omega)
   omega
  simp only
  split <;> omega
theorem roundT_keep {t : Tm} {m : Nat} (h : TmOk t m) {vs : List Int} (h0 : 0 ≤ valX t vs) : ∀ (cs : List Int) (k : Nat) (ch : Bool) (sp : List Rg), t.coeffs.drop k = cs → sp.length = m → Vs sp → InS vs sp →
  (roundT t k cs ch sp).1 = false ∧ InS vs (roundT t k cs ch sp).2.2
 | [], k, ch, sp, _, _, _, hI => ⟨rfl, hI⟩
 | c :: cs, k, ch, sp, hd, hs, hV, hI => by
  have hk : t.coeffs[k]? = some c := by
   have := congrArg (·[0]?) hd
   simpa using this
  have hd' : t.coeffs.drop (k + 1) = cs := by
   have := congrArg (List.drop 1) hd
   simpa [List.drop_drop, Nat.add_comm] using this
  rw [roundT]
  by_cases hc0 : c = 0
  ·rw [if_pos hc0]
   exact roundT_keep h h0 cs (k + 1) ch sp hd' hs hV hI
  ·rw [if_neg hc0]
   have hlt : k < sp.length := by rw [hs, ← h.len]; exact lt_of_getElem? hk
   obtain ⟨x, hx⟩ : ∃ x, sp[k]? = some x := ⟨sp[k], List.getElem?_eq_getElem hlt⟩
   obtain ⟨v, hv⟩ := get_of_len hI.1.symm hx
   have hkp := h.keep hV hs hI h0 hk hc0 hx hv
   have hz : ¬ sizeP (narrowP t sp k c x) < 0 := by
    rw [(h.narrow hV hs hk hc0 hx).2.2]
    omega
   rw [hx]
   simp only
   rw [if_neg hz]
   exact roundT_keep h h0 cs (k + 1) _ _ hd' (by rw [List.length_set]; exact hs) (hV.narrow h hs hk hc0 hx hz) (hI.set hv hkp.1 hkp.2)
theorem roundT_sub {t : Tm} {m : Nat} (h : TmOk t m) : ∀ (cs : List Int) (k : Nat) (ch : Bool) (sp : List Rg), t.coeffs.drop k = cs → sp.length = m → Vs sp → (roundT t k cs ch sp).1 = false → SubS (roundT t k cs ch sp).2.2 sp
 | [], k, ch, sp, _, _, _, _ => SubS.refl sp
 | c :: cs, k, ch, sp, hd, hs, hV, he => by
  have hk : t.coeffs[k]? = some c := by
   have := congrArg (·[0]?) hd
   simpa using this
  have hd' : t.coeffs.drop (k + 1) = cs := by
   have := congrArg (List.drop 1) hd
   simpa [List.drop_drop, Nat.add_comm] using this
  rw [roundT] at he ⊢
  by_cases hc0 : c = 0
  ·rw [if_pos hc0] at he ⊢
   exact roundT_sub h cs (k + 1) ch sp hd' hs hV he
  ·rw [if_neg hc0] at he ⊢
   have hlt : k < sp.length := by rw [hs, ← h.len]; exact lt_of_getElem? hk
   obtain ⟨x, hx⟩ : ∃ x, sp[k]? = some x := ⟨sp[k], List.getElem?_eq_getElem hlt⟩
   rw [hx] at he ⊢
   simp only at he ⊢
   by_cases hz : sizeP (narrowP t sp k c x) < 0
   ·rw [if_pos hz] at he
    cases he
   ·rw [if_neg hz] at he ⊢
    have hn := h.narrow hV hs hk hc0 hx
    exact (roundT_sub h cs (k + 1) _ _ hd' (by rw [List.length_set]; exact hs) (hV.narrow h hs hk hc0 hx hz) he).trans (SubS.set hx hn.1 hn.2.1)
theorem roundP_keep {m : Nat} {vs : List Int} : ∀ (l : List Tm) (ch : Bool) (sp : List Rg), (∀ t ∈ l, TmOk t m) → (∀ t ∈ l, 0 ≤ valX t vs) → sp.length = m → Vs sp → InS vs sp → (roundP l ch sp).1 = false ∧ InS vs (roundP l ch sp).2.2
 | [], _, _, _, _, _, _, hI => ⟨rfl, hI⟩
 | t :: l, ch, sp, h, h0, hs, hV, hI => by
  have ht := h t List.mem_cons_self
  have hr := roundT_keep ht (h0 t List.mem_cons_self) t.coeffs 0 ch sp rfl hs hV hI
  rw [roundP, if_neg (by rw [hr.1]; decide)]
  exact roundP_keep l _ _ (fun t' h' => h t' (List.mem_cons_of_mem _ h')) (fun t' h' => h0 t' (List.mem_cons_of_mem _ h')) (by rw [roundT_len]; exact hs) (roundT_Vs ht _ 0 ch sp rfl hs hV hr.1) hr.2
theorem roundP_sub {m : Nat} : ∀ (l : List Tm) (ch : Bool) (sp : List Rg), (∀ t ∈ l, TmOk t m) → sp.length = m → Vs sp → (roundP l ch sp).1 = false → SubS (roundP l ch sp).2.2 sp
 | [], _, sp, _, _, _, _ => SubS.refl sp
 | t :: l, ch, sp, h, hs, hV, he => by
  rw [roundP] at he ⊢
  have ht := h t List.mem_cons_self
  by_cases hr : (roundT t 0 t.coeffs ch sp).1 = true
  ·rw [if_pos hr] at he
   rw [hr] at he
   cases he
  ·rw [if_neg hr] at he ⊢
   have hr' : (roundT t 0 t.coeffs ch sp).1 = false := by simpa using hr
   exact (roundP_sub l _ _ (fun t' h' => h t' (List.mem_cons_of_mem _ h')) (by rw [roundT_len]; exact hs) (roundT_Vs ht _ 0 ch sp rfl hs hV hr') he).trans (roundT_sub ht _ 0 ch sp rfl hs hV hr')
theorem roundsP_keep {m : Nat} {l : List Tm} (h : ∀ t ∈ l, TmOk t m) {vs : List Int} (h0 : ∀ t ∈ l, 0 ≤ valX t vs) : ∀ (n : Nat) (sp : List Rg), sp.length = m → Vs sp → InS vs sp → ∃ s, roundsP l n sp = some s ∧ InS vs s
 | 0, sp, _, _, hI => ⟨sp, rfl, hI⟩
 | n + 1, sp, hs, hV, hI => by
  have hr := roundP_keep l false sp h h0 hs hV hI
  have h1 := roundP_Vs l false sp h hs hV hr.1
  have h2 : (roundP l false sp).2.2.length = m := by rw [roundP_len]; exact hs
  rw [roundsP, if_neg (by rw [hr.1]; decide)]
  split
  ·exact roundsP_keep h h0 n _ h2 h1 hr.2
  ·exact ⟨_, rfl, hr.2⟩
theorem roundsP_sub {m : Nat} {l : List Tm} (h : ∀ t ∈ l, TmOk t m) : ∀ (n : Nat) (sp s : List Rg), sp.length = m → Vs sp → roundsP l n sp = some s → SubS s sp
 | 0, sp, s, _, _, he => by cases he; exact SubS.refl _
 | n + 1, sp, s, hs, hV, he => by
  rw [roundsP] at he
  by_cases hr : (roundP l false sp).1 = true
  ·rw [if_pos hr] at he; cases he
  ·rw [if_neg hr] at he
   have hr' : (roundP l false sp).1 = false := by simpa using hr
   have h1 := roundP_Vs l false sp h hs hV hr'
   have h2 : (roundP l false sp).2.2.length = m := by rw [roundP_len]; exact hs
   have h3 := roundP_sub l false sp h hs hV hr'
   split at he
   ·exact (roundsP_sub h n _ s h2 h1 he).trans h3
   ·cases he; exact h3
theorem narrowedP_keep {m : Nat} {l : List Tm} (h : ∀ t ∈ l, TmOk t m) {vs : List Int} (h0 : ∀ t ∈ l, 0 ≤ valX t vs) {sp : List Rg} (hs : sp.length = m) (hV : Vs sp) (hI : InS vs sp) : ∃ s, narrowedP l sp = some s ∧ InS vs s := by
 obtain ⟨s, h1, h2⟩ := roundsP_keep h h0 20 sp hs hV hI
 have h3 := roundsP_Vs h 20 sp s hs hV h1
 refine ⟨s, ?_, h2⟩
 rw [narrowedP, h1]
 simp only
 rw [if_neg]
 simp only [List.any_eq_true, decide_eq_true_eq, not_exists, not_and]
 intro t ht hlt
 have := (h t ht).great_val h3.2 h3.1 h2
 have := h0 t ht
 omega
theorem narrowedP_sub {m : Nat} {l : List Tm} (h : ∀ t ∈ l, TmOk t m) {sp s : List Rg} (hs : sp.length = m) (hV : Vs sp) (he : narrowedP l sp = some s) : SubS s sp := by
 unfold narrowedP at he
 cases hr : roundsP l 20 sp with
 | none => rw [hr] at he; cases he
 | some s' =>
  rw [hr] at he
  simp only at he
  split at he
  ·cases he
  ·cases he
   exact roundsP_sub h 20 sp s hs hV hr
theorem seekP_right {m : Nat} {l : List Tm} (h : ∀ t ∈ l, TmOk t m) : ∀ (f : Nat) (left : Int) (sp : List Rg), 0 ≤ left → left < f → sp.length = m → Vs sp →
  ((seekP l f left sp).is = true → InS (seekP l f left sp).vals sp ∧ modelB l (seekP l f left sp).vals = true) ∧
  ((seekP l f left sp).is = false → (seekP l f left sp).err = 0 → ∀ vs, InS vs sp → ¬ ∀ t ∈ l, 0 ≤ valX t vs) ∧
  ((seekP l f left sp).err = 0 ∨ (seekP l f left sp).err = 30)
 | 0, left, sp, h0, h1, _, _ => by omega
 | f + 1, left, sp, h0, h1, hs, hV => by
  rw [seekP]
  by_cases hz : left = 0
  ·rw [if_pos hz]
   exact ⟨fun h => (by cases h), fun _ h => (by cases h), .inr rfl⟩
  ·rw [if_neg hz]
   cases hn : narrowedP l sp with
   | none =>
    refine ⟨fun h => (by cases h), fun _ _ vs hI hm => ?_, .inl rfl⟩
    obtain ⟨s, h1, _⟩ := narrowedP_keep h hm hs hV hI
    rw [hn] at h1
    cases h1
   | some s =>
    obtain ⟨hs2, hV2, hany⟩ := narrowedP_some h hs hV hn
    have hsub := narrowedP_sub h hs hV hn
    simp only
    by_cases hw : widestP s 0 s (-1) < 0
    ·rw [if_pos hw]
     have hp : ∀ r ∈ s, r.lo = r.hi := fun r hr => by
      have h1 := (widestP_neg s 0 (-1) hw).2 r hr
      have h2 := hV2.size hr
      omega
     refine ⟨fun _ => ⟨InS.sub ⟨by simp, fun i v r hv hr => ?_⟩ hsub, model_of_points h hs2 hV2 hp hany⟩, fun h => (by cases h), .inl rfl⟩
     rw [List.getElem?_map, hr] at hv
     cases hv
     have := hV2 r (mem_of_get hr)
     simp only
     omega
    ·rw [if_neg hw]
     have hne : s ≠ [] := by
      intro e
      rw [e] at hw
      exact hw (by decide)
     obtain ⟨x, hx, hrel⟩ := widest_both hV2 hne
     rcases hrel with ⟨e, _⟩ | ⟨e, hpos⟩
     ·rw [e] at hw; exact absurd (by decide) hw
     ·generalize widestR s 0 s 0 = w at hx e
      rw [e, Int.toNat_natCast, hx]
      simp only
      have hvx := hV2 x (mem_of_get hx)
      have hsx := (hV2.size (mem_of_get hx)).1
      rw [wrap_i64 (x.lo + x.hi) (by omega) (by omega)]
      obtain ⟨hm1, hm2⟩ := floor_half (a := x.lo + x.hi) (by omega) (by omega)
      generalize floorP (x.lo + x.hi) 2 = mid at hm1 hm2
      rw [wrap_i64 (mid + 1) (by omega) (by omega)]
      have hVl : Vs (s.set w ⟨x.lo, mid⟩) := hV2.set ⟨by simp only; omega, by simp only; omega, by simp only; omega⟩
      have hVh : Vs (s.set w ⟨mid + 1, x.hi⟩) := hV2.set ⟨by simp only; omega, by simp only; omega, by simp only; omega⟩
      have sl : SubS (s.set w ⟨x.lo, mid⟩) sp := (SubS.set hx (by simp only; omega) (by simp only; omega)).trans hsub
      have sh : SubS (s.set w ⟨mid + 1, x.hi⟩) sp := (SubS.set hx (by simp only; omega) (by simp only; omega)).trans hsub
      have i1 := seekP_right h f (left - 1) (s.set w ⟨x.lo, mid⟩) (by omega) (by omega) (by rw [List.length_set]; exact hs2) hVl
      have il := seekP_left l f (left - 1) (s.set w ⟨x.lo, mid⟩) (by omega)
      generalize seekP l f (left - 1) (s.set w ⟨x.lo, mid⟩) = A at i1 il ⊢
      have i2 := seekP_right h f A.left (s.set w ⟨mid + 1, x.hi⟩) (by omega) (by omega) (by rw [List.length_set]; exact hs2) hVh
      generalize seekP l f A.left (s.set w ⟨mid + 1, x.hi⟩) = B at i2 ⊢
      have both : ∀ vs, InS vs sp → (∀ t ∈ l, 0 ≤ valX t vs) → InS vs (s.set w ⟨x.lo, mid⟩) ∨ InS vs (s.set w ⟨mid + 1, x.hi⟩) := fun vs hI hm => by
       obtain ⟨s', h1, h2⟩ := narrowedP_keep h hm hs hV hI
       rw [hn] at h1
       cases h1
       obtain ⟨v, hv⟩ := get_of_len h2.1.symm hx
       have hb := h2.2 w v x hv hx
       by_cases hvm : v ≤ mid
       ·exact .inl (h2.set hv hb.1 hvm)
       ·exact .inr (h2.set hv (by simp only; omega) hb.2)
      by_cases hAi : A.is = true
      ·rw [if_pos hAi]
       refine ⟨fun _ => ⟨(i1.1 hAi).1.sub sl, (i1.1 hAi).2⟩, fun h => ?_, i1.2.2⟩
       rw [hAi] at h
       cases h
      ·have hAi' : A.is = false := by simpa using hAi
       rw [if_neg hAi]
       by_cases hAe : A.err = 0
       ·rw [if_pos hAe]
        have nA := i1.2.1 hAi' hAe
        by_cases hBi : B.is = true
        ·rw [if_pos hBi]
         refine ⟨fun _ => ⟨(i2.1 hBi).1.sub sh, (i2.1 hBi).2⟩, fun h => ?_, i2.2.2⟩
         rw [hBi] at h
         cases h
        ·have hBi' : B.is = false := by simpa using hBi
         rw [if_neg hBi]
         by_cases hBe : B.err = 0
         ·rw [if_pos hBe]
          refine ⟨fun h => (by cases h), fun _ _ vs hI hm => ?_, .inl rfl⟩
          rcases both vs hI hm with k | k
          ·exact nA vs k hm
          ·exact i2.2.1 hBi' hBe vs k hm
         ·rw [if_neg hBe]
          refine ⟨fun h => absurd h hBi, fun _ h => absurd h hBe, i2.2.2⟩
       ·rw [if_neg hAe]
        exact ⟨fun h => absurd h hAi, fun _ h => absurd h hAe, i1.2.2⟩
theorem model_val {m : Nat} {l : List Tm} (h : ∀ t ∈ l, TmOk t m) {vs : List Int} (hv : Val vs) : modelB l vs = true ↔ ∀ t ∈ l, 0 ≤ valX t vs := by
 unfold modelB
 simp only [Bool.not_eq_true', List.any_eq_false, decide_eq_true_eq]
 exact ⟨fun k t ht => by have := k t ht; rw [valueR_eq (h t ht) hv] at this; omega, fun k t ht => by have := k t ht; rw [valueR_eq (h t ht) hv]; omega⟩
def wsum : List Tm → List Int → List Int → Int
 | t :: l, f :: fs, vs => f * valX t vs + wsum l fs vs
 | _, _, _ => 0
theorem fac_bound {f c M : Int} (hf : 0 ≤ f ∧ f ≤ 1000) (hM : 0 ≤ M) (hc : -M ≤ c ∧ c ≤ M) : -(1000 * M) ≤ f * c ∧ f * c ≤ 1000 * M := by
 have h1 : f * c ≤ f * M := Int.mul_le_mul_of_nonneg_left hc.2 hf.1
 have h2 : f * M ≤ 1000 * M := Int.mul_le_mul_of_nonneg_right hf.2 hM
 have h3 : f * (-M) ≤ f * c := Int.mul_le_mul_of_nonneg_left hc.1 hf.1
 rw [Int.mul_neg] at h3
 omega
theorem mac_eq {f a c M A : Int} (hf : 0 ≤ f ∧ f ≤ 1000) (hM : 0 ≤ M) (hc : -M ≤ c ∧ c ≤ M) (ha : -A ≤ a ∧ a ≤ A) (hb : A + 1000 * M ≤ 9000000000000000000) : mac f a c = a + f * c := by
 have := fac_bound hf hM hc
 rw [mac, wrap_i64 (f * c) (by omega) (by omega), wrap_i64 (a + f * c) (by omega) (by omega)]
theorem row_eq {f A : Int} (hf : 0 ≤ f ∧ f ≤ 1000) (hb : A + 1000000000 ≤ 9000000000000000000) : ∀ (acc cs vs : List Int) (m : Nat), acc.length = m → cs.length = m → vs.length = m → Cs cs → (∀ x ∈ acc, -A ≤ x ∧ x ≤ A) →
  dotX (rowSum f acc cs) vs = dotX acc vs + f * dotX cs vs ∧ ∀ x ∈ rowSum f acc cs, -(A + 1000000000) ≤ x ∧ x ≤ A + 1000000000
 | [], [], _, _, _, _, _, _, _ => ⟨by simp [rowSum, dotX], fun x h => by simp [rowSum] at h⟩
 | [], _ :: _, _, _, h, h', _, _, _ => by simp at h h'; omega
 | _ :: _, [], _, _, h, h', _, _, _ => by simp at h h'; omega
 | _ :: _, _ :: _, [], _, h, h', h'', _, _ => by simp at h h''; omega
 | a :: acc, c :: cs, v :: vs, m, h1, h2, h3, hc, ha => by
  cases m with
  | zero => simp at h1
  | succ m =>
   have hcc := hc c List.mem_cons_self
   have haa := ha a List.mem_cons_self
   have hfb := fac_bound hf (M := 1000000) (by decide) hcc
   have ih := row_eq hf hb acc cs vs m (by simpa using h1) (by simpa using h2) (by simpa using h3) (fun x hx => hc x (List.mem_cons_of_mem _ hx)) (fun x hx => ha x (List.mem_cons_of_mem _ hx))
   have e : rowSum f (a :: acc) (c :: cs) = (a + f * c) :: rowSum f acc cs := by
    rw [rowSum, List.zipWith_cons_cons, mac_eq (M := 1000000) hf (by decide) hcc haa (by omega)]
    rfl
   rw [e]
   refine ⟨?_, fun x hx => ?_⟩
   ·rw [dotX, dotX, dotX, ih.1, Int.add_mul, Int.mul_add, Int.mul_assoc]
    omega
   ·rcases List.mem_cons.1 hx with rfl | hx
    ·omega
    ·exact ih.2 x hx
structure TmW (t : Tm) (m : Nat) : Prop where
 len : t.coeffs.length = m
 cs : Cs t.coeffs
 lo : -1000000000000 ≤ t.const
 hi : t.const ≤ 1000000000000
theorem TmOk.w {t : Tm} {m : Nat} (h : TmOk t m) : TmW t m := ⟨h.len, h.cs, h.lo, h.hi⟩
def Fac (fs : List Int) : Prop := ∀ f ∈ fs, 0 ≤ f ∧ f ≤ 1000
theorem sums_dot {m : Nat} {vs : List Int} (hv : vs.length = m) : ∀ (l : List Tm) (fs acc : List Int) (a A C : Int), acc.length = m → (∀ x ∈ acc, -A ≤ x ∧ x ≤ A) → -C ≤ a → a ≤ C → A + l.length * 1000000000 ≤ 9000000000000000000 → C + l.length * 1000000000000000 ≤ 9000000000000000000 →
  (∀ t ∈ l, TmW t m) → Fac fs → dotX (sumsL l fs acc) vs + sumsC l fs a = dotX acc vs + a + wsum l fs vs
 | [], fs, acc, a, A, C, _, _, _, _, _, _, _, _ => by simp [sumsL, sumsC, wsum]
 | _ :: _, [], acc, a, A, C, _, _, _, _, _, _, _, _ => by simp [sumsL, sumsC, wsum]
 | t :: l, f :: fs, acc, a, A, C, hl, ha, h1, h2, hA, hC, ht, hf => by
  have htt := ht t List.mem_cons_self
  have hff := hf f List.mem_cons_self
  simp only [List.length_cons] at hA hC
  have hfb := fac_bound hff (M := 1000000000000) (by decide) ⟨htt.lo, htt.hi⟩
  have hr := row_eq hff (A := A) (by omega) acc t.coeffs vs m hl htt.len hv htt.cs ha
  rw [sumsL, sumsC, wsum, mac_eq (M := 1000000000000) hff (by decide) ⟨htt.lo, htt.hi⟩ ⟨h1, h2⟩ (by omega)]
  rw [sums_dot hv l fs (rowSum f acc t.coeffs) (a + f * t.const) (A + 1000000000) (C + 1000000000000000) (rowSum_len hl htt.len) hr.2 (by omega) (by omega) (by omega) (by omega) (fun t h => ht t (List.mem_cons_of_mem _ h)) (fun f h => hf f (List.mem_cons_of_mem _ h)), hr.1, valX, Int.mul_add]
  omega
theorem sumsL_len {m : Nat} : ∀ (l : List Tm) (fs acc : List Int), acc.length = m → (∀ t ∈ l, t.coeffs.length = m) → (sumsL l fs acc).length = m
 | [], fs, acc, h, _ => by simpa [sumsL] using h
 | _ :: _, [], acc, h, _ => by simpa [sumsL] using h
 | t :: l, f :: fs, acc, h, ht => by
  rw [sumsL]
  exact sumsL_len l fs _ (rowSum_len h (ht t List.mem_cons_self)) fun t h => ht t (List.mem_cons_of_mem _ h)
theorem dot_zero : ∀ (cs vs : List Int), (∀ c ∈ cs, c = 0) → dotX cs vs = 0
 | [], _, _ => by simp [dotX]
 | _ :: _, [], _ => by simp [dotX]
 | c :: cs, v :: vs, h => by rw [dotX, h c List.mem_cons_self, dot_zero cs vs fun c hc => h c (List.mem_cons_of_mem _ hc)]; omega
theorem wsum_nonneg {vs : List Int} : ∀ (l : List Tm) (fs : List Int), Fac fs → (∀ t ∈ l, 0 ≤ valX t vs) → 0 ≤ wsum l fs vs
 | [], _, _, _ => by simp [wsum]
 | _ :: _, [], _, _ => by simp [wsum]
 | t :: l, f :: fs, hf, ht => by
  rw [wsum]
  have h1 := Int.mul_nonneg (hf f List.mem_cons_self).1 (ht t List.mem_cons_self)
  have h2 := wsum_nonneg l fs (fun f h => hf f (List.mem_cons_of_mem _ h)) (fun t h => ht t (List.mem_cons_of_mem _ h))
  omega
theorem zeros_in (m : Nat) : ∀ x ∈ List.replicate m (0 : Int), -(0 : Int) ≤ x ∧ x ≤ 0 := fun x hx => by
 rw [(List.mem_replicate.1 hx).2]; decide
theorem varsOf_len {l : List Tm} {m : Nat} (hne : l ≠ []) (h : ∀ t ∈ l, t.coeffs.length = m) : varsOf l = m := by
 cases l with
 | nil => exact absurd rfl hne
 | cons t l => exact h t List.mem_cons_self
theorem sums0 {m : Nat} {l : List Tm} {fs vs : List Int} (hv : vs.length = m) (hl : l.length ≤ 1000) (ht : ∀ t ∈ l, TmW t m) (hf : Fac fs) : dotX (sumsL l fs (List.replicate m 0)) vs + sumsC l fs 0 = wsum l fs vs := by
 rw [sums_dot hv l fs (List.replicate m 0) 0 0 0 (by simp) (zeros_in m) (by decide) (by decide) (by omega) (by omega) ht hf, dot_zero _ _ fun c hc => (List.mem_replicate.1 hc).2]
 omega
theorem refutes_sound {m : Nat} {l : List Tm} {fs : List Int} (hne : l ≠ []) (hl : l.length ≤ 1000) (ht : ∀ t ∈ l, TmW t m) (hf : Fac fs) (h : refutesB l fs = true) {vs : List Int} (hv : vs.length = m) : ¬ ∀ t ∈ l, 0 ≤ valX t vs := fun hm => by
 rw [refutes_leaf, leafB, varsOf_len hne fun t h => (ht t h).len, Bool.and_eq_true] at h
 have h1 := sums0 hv hl ht hf
 have h2 := wsum_nonneg l fs hf hm
 have h3 : ∀ c ∈ sumsL l fs (List.replicate m 0), c = 0 := fun c hc => by
  have := List.all_eq_true.1 h.1 c hc
  simpa using this
 have h4 : sumsC l fs 0 < 0 := by simpa using h.2
 rw [dot_zero _ _ h3] at h1
 omega
theorem dot_unit (c : Int) : ∀ (m v : Nat) (vs : List Int) (x : Int), vs.length = m → vs[v]? = some x → dotX ((List.replicate m 0).set v c) vs = c * x
 | 0, v, vs, x, hl, hx => by
  have := List.eq_nil_of_length_eq_zero hl
  subst this
  simp at hx
 | m + 1, v, [], x, hl, hx => by simp at hl
 | m + 1, 0, y :: vs, x, hl, hx => by
  simp at hx
  subst hx
  rw [List.replicate_succ, List.set_cons_zero, dotX, dot_zero _ _ fun c hc => (List.mem_replicate.1 hc).2]
  omega
 | m + 1, v + 1, y :: vs, x, hl, hx => by
  rw [List.replicate_succ, List.set_cons_succ, dotX, dot_unit c m v vs x (by simpa using hl) (by simpa using hx)]
  omega
structure FormOk (p : List St) (m : Nat) : Prop where
 leaf : ∀ s ∈ p, s.leaf = true → s.factors.length ≤ 167 ∧ Fac s.factors
 bound : ∀ s ∈ p, s.leaf = false → -4294967295 ≤ s.bound ∧ s.bound ≤ 4294967295
 ok : okSteps p m
theorem formOk_of {p : List St} {m : Nat} (h : checkFormE p m = 0) : FormOk p m := by
 have hok := (form_ok h).2.2
 have hz : ∀ i s, p[i]? = some s → stepE s (i : Nat) m = 0 := by
  unfold checkFormE at h
  simp only at h
  split at h
  ·intro i s hs
   have := steps_zero h i s hs
   simpa using this
  ·rename_i hn
   exact absurd h hn
 refine ⟨fun s hs hl => ?_, fun s hs hl => ?_, hok⟩
 ·obtain ⟨i, hi⟩ := List.mem_iff_getElem?.1 hs
  have := hz i s hi
  rw [stepE, if_pos hl] at this
  split at this
  ·cases this
  ·refine ⟨by omega, fun f hf => ?_⟩
   have h1 := (firstE_zero _).1 this (firstE (s.factors.map fun n => withinE n 0 1000)) (by simp)
   have h2 := (firstE_zero _).1 h1 _ (List.mem_map_of_mem hf)
   unfold withinE at h2
   split at h2
   ·cases h2
   ·omega
 ·obtain ⟨i, hi⟩ := List.mem_iff_getElem?.1 hs
  have := hz i s hi
  rw [stepE, if_neg (by rw [hl]; decide)] at this
  have h1 := (firstE_zero _).1 this (withinE s.bound (-4294967295) 4294967295) (by simp)
  unfold withinE at h1
  split at h1
  ·cases h1
  ·omega
theorem cs_unit {m v : Nat} {c : Int} (hc : -1000000 ≤ c ∧ c ≤ 1000000) : Cs ((List.replicate m 0).set v c) := fun x hx => by
 rcases List.mem_or_eq_of_mem_set hx with h | rfl
 ·rw [(List.mem_replicate.1 h).2]; decide
 ·exact hc
theorem visit_sound {p : List St} {m : Nat} (hp : FormOk p m) {vs : List Int} (hv : vs.length = m) : ∀ (f : Nat) (c : Int) (l : List Tm) (i : Nat), i < f → i < p.length → l ≠ [] → l.length + f ≤ 1000 → (∀ t ∈ l, TmW t m) → 0 ≤ c → c ≤ 127 → (visitP p m f c l i).err = 0 →
  (¬ ∀ t ∈ l, 0 ≤ valX t vs) ∧ 0 ≤ (visitP p m f c l i).many ∧ (visitP p m f c l i).many ≤ 127
 | 0, _, _, _, h, _, _, _, _, _, _, _ => by omega
 | f + 1, c, l, i, hi, hip, hne, hlf, ht, h0, h1, he => by
  obtain ⟨s, hs⟩ : ∃ s, p[i]? = some s := ⟨p[i], List.getElem?_eq_getElem hip⟩
  have hmem := mem_of_get hs
  rw [visitP, wrap_i64 (c + 1) (by omega) (by omega)] at he ⊢
  by_cases hc : 127 < c + 1
  ·rw [if_pos hc] at he; cases he
  ·rw [if_neg hc, hs] at he ⊢
   simp only at he ⊢
   by_cases hl : s.leaf = true
   ·rw [if_pos hl] at he ⊢
    by_cases hlen : s.factors.length = l.length
    ·rw [if_pos hlen] at he ⊢
     have hr := (whenE_zero (by decide)).1 he
     have hr' : refutesB l s.factors = true := by simpa using hr
     exact ⟨refutes_sound hne (by omega) ht (hp.leaf s hmem hl).2 hr' hv, by simp only; omega, by simp only; omega⟩
    ·rw [if_neg hlen] at he; cases he
   ·have hl' : s.leaf = false := by simpa using hl
    obtain ⟨v, a, b, hvar, hvm, hk0, ha, hk1, hb⟩ := hp.ok i s hs hl'
    have hbd := hp.bound s hmem hl'
    have tl : TmW (tmLow s m) m := ⟨by simp [tmLow], cs_unit (by decide), by simp only [tmLow]; omega, by simp only [tmLow]; omega⟩
    have hwr : IntKind.i64.wrap (IntKind.i64.wrap (0 - s.bound) - 1) = 0 - s.bound - 1 := by
     rw [wrap_i64 (0 - s.bound) (by omega) (by omega), wrap_i64 _ (by omega) (by omega)]
    have th : TmW (tmHigh s m) m := ⟨by simp [tmHigh], cs_unit (by decide), by simp only [tmHigh, hwr]; omega, by simp only [tmHigh, hwr]; omega⟩
    have all1 : ∀ t ∈ l ++ [tmLow s m], TmW t m := fun t h => by
     rcases List.mem_append.1 h with h | h
     ·exact ht t h
     ·rw [List.mem_singleton.1 h]; exact tl
    have all2 : ∀ t ∈ l ++ [tmHigh s m], TmW t m := fun t h => by
     rcases List.mem_append.1 h with h | h
     ·exact ht t h
     ·rw [List.mem_singleton.1 h]; exact th
    rw [if_neg hl] at he ⊢
    rw [hk0, hk1, Int.toNat_natCast, Int.toNat_natCast] at he ⊢
    have i1 := visit_sound hp hv f (c + 1) (l ++ [tmLow s m]) a (by omega) (by omega) (by simp) (by simp; omega) all1 (by omega) (by omega)
    generalize visitP p m f (c + 1) (l ++ [tmLow s m]) a = A at he i1 ⊢
    by_cases hA : A.err = 0
    ·rw [if_pos hA] at he ⊢
     have j1 := i1 hA
     have i2 := visit_sound hp hv f A.many (l ++ [tmHigh s m]) b (by omega) (by omega) (by simp) (by simp; omega) all2 j1.2.1 j1.2.2
     generalize visitP p m f A.many (l ++ [tmHigh s m]) b = B at he i2 ⊢
     by_cases hB : B.err = 0
     ·rw [if_pos hB] at he ⊢
      have j2 := i2 hB
      refine ⟨fun hm => ?_, j2.2.1, j2.2.2⟩
      obtain ⟨x, hx⟩ : ∃ x, vs[v]? = some x := ⟨vs[v]'(by omega), List.getElem?_eq_getElem _⟩
      by_cases hxb : x ≤ s.bound
      ·refine j1.1 fun t h => ?_
       rcases List.mem_append.1 h with h | h
       ·exact hm t h
       ·rw [List.mem_singleton.1 h, valX, tmLow]
        simp only
        rw [hvar, Int.toNat_natCast, dot_unit (-1) m v vs x hv hx]
        omega
      ·refine j2.1 fun t h => ?_
       rcases List.mem_append.1 h with h | h
       ·exact hm t h
       ·rw [List.mem_singleton.1 h, valX, tmHigh]
        simp only
        rw [hvar, Int.toNat_natCast, hwr, dot_unit 1 m v vs x hv hx]
        omega
     ·rw [if_neg hB] at he; exact absurd he hB
    ·rw [if_neg hA] at he; exact absurd he hA
theorem check_sound {l : List Tm} {p : List St} (h : (checkP l p).2 = 0) {vs : List Int} (hv : vs.length = varsOf l) : ¬ ∀ t ∈ l, 0 ≤ valX t vs := by
 unfold checkP at h
 split at h
 ·rename_i h1
  obtain ⟨hne, hl40, hts⟩ := terms_ok h1
  split at h
  ·rename_i h2
   obtain ⟨hpne, hp127, _⟩ := form_ok h2
   have hpl : p.length - 1 < p.length := by
    cases p with
    | nil => exact absurd rfl hpne
    | cons s p => simp
   split at h
   ·rename_i h3
    exact (visit_sound (formOk_of h2) hv p.length 0 l (p.length - 1) hpl hpl hne (by omega) (fun t ht => (tmOk_of (hts t ht).1 (hts t ht).2.1 (hts t ht).2.2).w) (by decide) (by decide) h3).1
   ·rename_i h3
    exact absurd h h3
  ·rename_i h2
   exact absurd h h2
 ·rename_i h1
  exact absurd h h1
theorem dotX_comm : ∀ (a b : List Int), dotX a b = dotX b a
 | [], [] => rfl
 | [], _ :: _ => rfl
 | _ :: _, [] => rfl
 | x :: a, y :: b => by rw [dotX, dotX, dotX_comm a b, Int.mul_comm]
theorem wsum_zero (vs : List Int) : ∀ (l : List Tm) (n : Nat), wsum l (List.replicate n 0) vs = 0
 | [], n => by simp [wsum]
 | t :: l, 0 => by simp [wsum]
 | t :: l, n + 1 => by rw [List.replicate_succ, wsum, wsum_zero vs l n]; omega
theorem wsum_set (vs : List Int) : ∀ (l : List Tm) (fs : List Int) (i : Nat) (t : Tm) (f y : Int), l[i]? = some t → fs[i]? = some f → wsum l (fs.set i y) vs = wsum l fs vs + (y - f) * valX t vs
 | [], _, _, _, _, _, h, _ => by simp at h
 | _ :: _, [], _, _, _, _, _, h => by simp at h
 | t' :: l, f' :: fs, 0, t, f, y, h, k => by
  simp at h k
  subst h
  subst k
  rw [List.set_cons_zero, wsum, wsum, Int.sub_mul]
  omega
 | t' :: l, f' :: fs, i + 1, t, f, y, h, k => by
  simp at h k
  rw [List.set_cons_succ, wsum, wsum, wsum_set vs l fs i t f y h k]
  omega
theorem refutes_of {m : Nat} {l : List Tm} {fs : List Int} {K : Int} (hne : l ≠ []) (hl : l.length ≤ 1000) (ht : ∀ t ∈ l, TmW t m) (hf : Fac fs) (hK : K < 0) (h : ∀ vs : List Int, vs.length = m → wsum l fs vs = K) : refutesB l fs = true := by
 have h0 := sums0 (vs := List.replicate m 0) (by simp) hl ht hf
 rw [h _ (by simp), dotX_comm, dot_zero _ _ fun c hc => (List.mem_replicate.1 hc).2] at h0
 rw [refutes_leaf, leafB, varsOf_len hne fun t h => (ht t h).len, Bool.and_eq_true]
 refine ⟨List.all_eq_true.2 fun x hx => ?_, by simp; omega⟩
 obtain ⟨j, hj⟩ := List.mem_iff_getElem?.1 hx
 have hlen := sumsL_len (m := m) l fs (List.replicate m 0) (by simp) fun t h => (ht t h).len
 have h1 := sums0 (vs := (List.replicate m 0).set j 1) (by simp) hl ht hf
 rw [h _ (by simp), dotX_comm, dot_unit 1 m j _ x hlen hj] at h1
 simp
 omega
theorem plain_dot {t : Tm} (h : plainB t = true) (vs : List Int) : dotX t.coeffs vs = 0 :=
 dot_zero _ _ fun c hc => by have := List.all_eq_true.1 h c hc; simpa using this
theorem opposed_dot : ∀ (a b vs : List Int), Cs a → Cs b → a.length = b.length → opposedB a b = true → dotX a vs + dotX b vs = 0
 | [], [], vs, _, _, _, _ => by simp [dotX]
 | [], _ :: _, _, _, _, h, _ => by simp at h
 | _ :: _, [], _, _, _, h, _ => by simp at h
 | x :: a, y :: b, [], _, _, _, _ => by simp [dotX]
 | x :: a, y :: b, v :: vs, ha, hb, hl, h => by
  rw [opposedB, Bool.and_eq_true] at h
  have hx := ha x List.mem_cons_self
  have hy := hb y List.mem_cons_self
  have h1 : IntKind.i64.wrap (x + y) = 0 := by simpa using h.1
  rw [wrap_i64 (x + y) (by omega) (by omega)] at h1
  have h2 := opposed_dot a b vs (fun c h => ha c (List.mem_cons_of_mem _ h)) (fun c h => hb c (List.mem_cons_of_mem _ h)) (by simpa using hl) h.2
  have : y = -x := by omega
  subst this
  rw [dotX, dotX, Int.neg_mul]
  omega
theorem idxE_spec {α : Type} (g : α → Bool) : ∀ (l : List α) (k : Nat), 0 ≤ idxE g k l → ∃ j x, idxE g k l = ((k + j : Nat) : Int) ∧ l[j]? = some x ∧ g x = true
 | [], k, h => by simp [idxE] at h
 | x :: l, k, h => by
  rw [idxE] at h ⊢
  by_cases hx : g x = true
  ·rw [if_pos hx]
   exact ⟨0, x, by simp, rfl, hx⟩
  ·rw [if_neg hx] at h ⊢
   obtain ⟨j, y, h1, h2, h3⟩ := idxE_spec g l (k + 1) h
   exact ⟨j + 1, y, by rw [h1]; congr 1; omega, by simpa using h2, h3⟩
theorem oppF_spec (a : Tm) : ∀ (l : List Tm) (k r : Nat), oppF a k l = some r → ∃ j x, r = k + j ∧ l[j]? = some x ∧ oppB a x = true
 | [], _, _, h => by cases h
 | x :: l, k, r, h => by
  rw [oppF] at h
  by_cases hx : oppB a x = true
  ·rw [if_pos hx] at h
   cases h
   exact ⟨0, x, rfl, rfl, hx⟩
  ·rw [if_neg hx] at h
   obtain ⟨j, y, h1, h2, h3⟩ := oppF_spec a l (k + 1) r h
   exact ⟨j + 1, y, by omega, by simpa using h2, h3⟩
theorem pairsF_spec : ∀ (l : List Tm) (i : Nat) (is : List Nat), pairsF i l = some is → ∃ j k a b, is = [i + j, i + k] ∧ j < k ∧ l[j]? = some a ∧ l[k]? = some b ∧ oppB a b = true
 | [], _, _, h => by cases h
 | x :: l, i, is, h => by
  rw [pairsF] at h
  cases ho : oppF x (i + 1) l with
  | some r =>
   rw [ho] at h
   cases h
   obtain ⟨j, y, h1, h2, h3⟩ := oppF_spec x l (i + 1) r ho
   exact ⟨0, j + 1, x, y, by rw [h1]; simp; omega, by omega, rfl, by simpa using h2, h3⟩
  | none =>
   rw [ho] at h
   obtain ⟨j, k, a, b, h1, h2, h3, h4, h5⟩ := pairsF_spec l (i + 1) is h
   exact ⟨j + 1, k + 1, a, b, by rw [h1, show i + 1 + j = i + (j + 1) by omega, show i + 1 + k = i + (k + 1) by omega], by omega, by simpa using h3, by simpa using h4, h5⟩
theorem fac_ones : ∀ (is : List Nat) (S : List Int), Fac S → Fac (onesF S is)
 | [], S, h => h
 | i :: is, S, h => fac_ones is (S.set i 1) fun x hx => by
  rcases List.mem_or_eq_of_mem_set hx with h' | rfl
  ·exact h x h'
  ·decide
theorem fac_zeros (n : Nat) : Fac (List.replicate n 0) := fun x hx => by rw [(List.mem_replicate.1 hx).2]; decide
theorem pair_refutes {m : Nat} {l : List Tm} (hne : l ≠ []) (hl : l.length ≤ 1000) (ht : ∀ t ∈ l, TmOk t m) {is : List Nat} (h : pairAt l = some is) : refutesB l (onesF (List.replicate l.length 0) is) = true := by
 have hw : ∀ t ∈ l, TmW t m := fun t h => (ht t h).w
 have rep : ∀ i, i < l.length → (List.replicate l.length (0 : Int))[i]? = some 0 := fun i hi => by simp [hi]
 unfold pairAt at h
 split at h
 ·rename_i h0
  cases h
  obtain ⟨j, t, h1, h2, h3⟩ := idxE_spec flatB l 0 h0
  have htt := ht t (mem_of_get h2)
  rw [flatB_eq htt, pnB, Bool.and_eq_true] at h3
  rw [h1, Nat.zero_add, Int.toNat_natCast]
  refine refutes_of hne hl hw (fac_ones _ _ (fac_zeros _)) (K := t.const) (by simpa using h3.2) fun vs hv => ?_
  show wsum l ((List.replicate l.length 0).set j 1) vs = t.const
  rw [wsum_set vs l _ j t 0 1 h2 (rep j (lt_of_getElem? h2)), wsum_zero, valX, plain_dot h3.1]
  omega
 ·obtain ⟨j, k, a, b, rfl, hjk, h2, h3, h4⟩ := pairsF_spec l 0 is h
  have hta := ht a (mem_of_get h2)
  have htb := ht b (mem_of_get h3)
  rw [oppB_eq hta htb, oppR, Bool.and_eq_true] at h4
  have hc : IntKind.i64.wrap (a.const + b.const) < 0 := by simpa using h4.2
  have b1 := hta.lo
  have b2 := hta.hi
  have b3 := htb.lo
  have b4 := htb.hi
  rw [wrap_i64 (a.const + b.const) (by omega) (by omega)] at hc
  rw [Nat.zero_add, Nat.zero_add]
  refine refutes_of hne hl hw (fac_ones _ _ (fac_zeros _)) (K := a.const + b.const) hc fun vs hv => ?_
  show wsum l (((List.replicate l.length 0).set j 1).set k 1) vs = a.const + b.const
  have hg : ((List.replicate l.length (0 : Int)).set j 1)[k]? = some 0 := by
   rw [List.getElem?_set, if_neg (by omega)]
   exact rep k (lt_of_getElem? h3)
  have hd := opposed_dot a.coeffs b.coeffs vs hta.cs htb.cs (by rw [hta.len, htb.len]) h4.1
  rw [wsum_set vs l _ k b 0 1 h3 hg, wsum_set vs l _ j a 0 1 h2 (rep j (lt_of_getElem? h2)), wsum_zero, valX, valX]
  omega
theorem check_pair {l : List Tm} (h : checkTermsE l = 0) {is : List Nat} (hp : pairAt l = some is) : (checkP l [leafSt l.length is]).2 = 0 := by
 obtain ⟨hne, hl40, hts⟩ := terms_ok h
 have hm8 : varsOf l ≤ 8 := by
  cases l with
  | nil => exact absurd rfl hne
  | cons t l => exact (hts t List.mem_cons_self).2.2
 have hr := pair_refutes hne (by omega) (fun t ht => tmOk_of (hts t ht).1 (hts t ht).2.1 (hts t ht).2.2) hp
 have hlen : (onesF (List.replicate l.length 0) is).length = l.length := by rw [onesF_len]; simp
 have hF := fac_ones is _ (fac_zeros l.length)
 have hs : stepE (leafSt l.length is) 0 (varsOf l) = 0 := by
  rw [stepE, if_pos (show (leafSt l.length is).leaf = true from rfl), if_neg (by rw [leafSt]; simp only; omega)]
  refine (firstE_zero _).2 fun x hx => ?_
  simp only [List.mem_cons, List.not_mem_nil, or_false] at hx
  rcases hx with rfl | rfl
  ·refine (firstE_zero _).2 fun x hx => ?_
   obtain ⟨f, hf, rfl⟩ := List.mem_map.1 hx
   have := hF f hf
   unfold withinE
   rw [if_neg (by omega)]
  ·rfl
 have hform : checkFormE [leafSt l.length is] (varsOf l) = 0 := by
  unfold checkFormE
  simp only [List.length_cons, List.length_nil]
  have hw : withinE (varsOf l) 0 8 = 0 := by unfold withinE; rw [if_neg (by omega)]
  rw [if_pos]
  ·rw [stepsE, show ((0 : Nat) : Int) = 0 from rfl, if_pos hs]
   rfl
  ·rw [hw]; rfl
 have hv : (visitP [leafSt l.length is] (varsOf l) [leafSt l.length is].length 0 l ([leafSt l.length is].length - 1)).err = 0 := by
  simp only [List.length_cons, List.length_nil]
  rw [visitP, wrap_i64 (0 + 1) (by decide) (by decide), if_neg (by decide)]
  have e : [leafSt l.length is][0 + 1 - 1]? = some (leafSt l.length is) := rfl
  rw [e]
  simp only
  rw [if_pos (by rfl), if_pos (by rw [leafSt]; exact hlen)]
  show whenE (!refutesB l (onesF (List.replicate l.length 0) is)) 29 = 0
  rw [hr]
  rfl
 rw [checkP, if_pos h, if_pos hform, if_pos hv]
theorem values_ok {vs : List Int} {m : Nat} : valuesE vs m = 0 ↔ vs.length = m ∧ Val vs := by
 unfold valuesE
 rw [firstE_zero]
 constructor
 ·intro h
  have h1 := (whenE_zero (by decide)).1 (h (whenE (!decide ((vs.length : Int) = m)) 2) (by simp))
  simp at h1
  refine ⟨by omega, fun v hv => ?_⟩
  have h2 := (firstE_zero _).1 (h (firstE (vs.map fun x => withinE x (-4294967295) 4294967295)) (by simp)) _ (List.mem_map_of_mem hv)
  unfold withinE at h2
  split at h2
  ·cases h2
  ·omega
 ·rintro ⟨h1, h2⟩ x hx
  simp only [List.mem_cons, List.not_mem_nil, or_false] at hx
  rcases hx with rfl | rfl
  ·subst h1; simp [whenE]
  ·refine (firstE_zero _).2 fun x hx => ?_
   obtain ⟨v, hv, rfl⟩ := List.mem_map.1 hx
   have := h2 v hv
   unfold withinE
   rw [if_neg (by omega)]
theorem spansE_ok {sp : List Rg} {m : Nat} (hl : sp.length = m) (hV : Vs sp) : spansE sp m = 0 := by
 rw [spansE, firstE_zero]
 intro x hx
 simp only [List.mem_cons, List.not_mem_nil, or_false] at hx
 rcases hx with rfl | rfl
 ·subst hl; simp [whenE]
 ·refine (firstE_zero _).2 fun x hx => ?_
  obtain ⟨r, hr, rfl⟩ := List.mem_map.1 hx
  have := hV r hr
  rw [spanE, firstE_zero]
  intro x hx
  simp only [List.mem_cons, List.not_mem_nil, or_false] at hx
  rcases hx with rfl | rfl | rfl
  ·unfold withinE; rw [if_neg (by omega)]
  ·unfold withinE; rw [if_neg (by omega)]
  ·have : ¬ r.hi < r.lo := by omega
   simp [whenE, this]
end Go.AL
