import Derived.Test.YtjimmpldofoimaaGreatDoorAm
import Derived.Test.YtjimmpldofoimaaGreatDoorVa
import Derived.Test.YtjimmpldofoimaaGreatDoorWf

set_option linter.unusedVariables false
set_option linter.unusedSimpArgs false
namespace Go.AL
open Go.Proofs
variable {Γ : Glob}
attribute [local irreducible] codeW opsW dopsW
def bLeaf : ByteArray := ⟨#[108, 101, 97, 102]⟩
def bSplit : ByteArray := ⟨#[115, 112, 108, 105, 116]⟩
def kindsT : List AV := [str bLeaf, .fn (.func 322) [] [], .fn (.func 323) [] [], str bSplit, .fn (.func 324) [] [], .fn (.func 325) [] []]
def lineL (s : St) : List Int := if s.leaf then s.factors else [s.var, s.bound, s.k0, s.k1]
def lineP (tx : Int → ByteArray) (s : St) : ByteArray := joinP ((if s.leaf then bLeaf else bSplit) :: (lineL s).map tx) bSp ++ bNl
def LineOk (tx : Int → ByteArray) (s : St) : Prop := (Lib.join (((if s.leaf then bLeaf else bSplit) :: (lineL s).map tx).map (·.data.toList)) bSp.data.toList).length ≤ 140737488355328
theorem f184 (tx : Int → ByteArray) (s : St) (hl : s.factors.length ≤ 1000000) (hG : Γ 3 = some kindsT) (hI : ∀ x ∈ lineL s, DCall Tryz.prog Γ (.fn (.func 238) [] []) [int x] (str (tx x))) (hok : LineOk tx s) : PCalls Tryz.prog Γ 184 [stA s] (str (lineP tx s)) := by
 refine pcalls (ok184 Γ) fun σ => ?_
 have hG' : Γ 3 = some [.v (.string bLeaf), .fn (.func 322) [] [], .fn (.func 323) [] [], .v (.string bSplit), .fn (.func 324) [] [], .fn (.func 325) [] []] := hG
 cases hleaf : s.leaf with
 | true =>
  simp only [go_sem, Tryz.f184, hG', hleaf]
  simp only [lineL, hleaf, Bool.false_eq_true, if_true, if_false] at hI
  simp only [LineOk, lineL, hleaf, Bool.false_eq_true, if_true, if_false] at hok
  intro b hb
  simp only [go_sem, hleaf]
  refine callB_use (f237 s.factors (by omega) (.fn (.func 238) [] []) tx hI) rfl ?_
  simp only [go_sem, slStr]
  have hG0 : Grow σ (upd σ b (some (.row [.v (.string bLeaf)] 1 1))) 1 (.own b 1 0 1) [.v (.string bLeaf)] 1 := .inr ⟨b, 1, rfl, hb, upd_same _ _ _, rfl⟩
  refine appB_sl (appT_sl el267 tk9 by9 el267 (by decide) rfl (by decide)) ((Drop.refl σ).upd hb) hG0 (strs_one _) (by simp [strs]) (by simp; omega) (fun a' σ2 hD2 hO hG2 => ?_)
  simp only [go_sem]
  obtain ⟨σ3, hD23, hD3, hF3, hO3⟩ := hG2.fzers hD2
  have h182 := f182 (Γ := Γ) (bLeaf :: s.factors.map tx) bSp (by simp; omega) hok
  refine callB_drop hD23 h182 (.cons (by simpa [slStr, strs, str, Nat.add_comm] using hF3) (.cons (.refl _) .nil)) ?_
  simp only [go_sem, str]
  refine ⟨by
   have := joinP_size _ _ hok
   simp only [List.size_toArray, List.length_cons, List.length_nil] at this ⊢
   try simp only [List.map_cons, List.map_nil] at this
   omega, ?_⟩
  simp only [go_sem]
  exact retP_drop hD3 (by rw [lineP, lineL, hleaf]; rfl)
 | false =>
  simp only [go_sem, Tryz.f184, hG', hleaf]
  simp only [lineL, hleaf, Bool.false_eq_true, if_true, if_false] at hI
  simp only [LineOk, lineL, hleaf, Bool.false_eq_true, if_true, if_false] at hok
  intro b hb
  simp only [go_sem, hleaf]
  refine callB_use (f237 [s.var, s.bound, s.k0, s.k1] (by simp) (.fn (.func 238) [] []) tx hI) rfl ?_
  simp only [go_sem, slStr]
  have hG0 : Grow σ (upd σ b (some (.row [.v (.string bSplit)] 1 1))) 1 (.own b 1 0 1) [.v (.string bSplit)] 1 := .inr ⟨b, 1, rfl, hb, upd_same _ _ _, rfl⟩
  refine appB_sl (appT_sl el267 tk9 by9 el267 (by decide) rfl (by decide)) ((Drop.refl σ).upd hb) hG0 (strs_one _) (by simp [strs]) (by simp) (fun a' σ2 hD2 hO hG2 => ?_)
  simp only [go_sem]
  obtain ⟨σ3, hD23, hD3, hF3, hO3⟩ := hG2.fzers hD2
  have h182 := f182 (Γ := Γ) (bSplit :: [s.var, s.bound, s.k0, s.k1].map tx) bSp (by simp) hok
  refine callB_drop hD23 h182 (.cons (by simpa [slStr, strs, str, Nat.add_comm] using hF3) (.cons (.refl _) .nil)) ?_
  simp only [go_sem, str]
  refine ⟨by
   have := joinP_size _ _ hok
   simp only [List.size_toArray, List.length_cons, List.length_nil] at this ⊢
   try simp only [List.map_cons, List.map_nil] at this
   omega, ?_⟩
  simp only [go_sem]
  exact retP_drop hD3 (by rw [lineP, lineL, hleaf]; rfl)
def printP (tx : Int → ByteArray) (p : List St) : ByteArray := joinP (p.map (lineP tx)) ⟨#[]⟩
theorem f95 (tx : Int → ByteArray) (p : List St) (n : Int) (hp : Fits p.length) (hpc : ∀ s ∈ p, s.factors.length ≤ 1000000) (hG1 : Γ 1 = some [int 0, int 0]) (hG3 : Γ 3 = some kindsT)
  (hI : ∀ s ∈ p, ∀ x ∈ lineL s, DCall Tryz.prog Γ (.fn (.func 238) [] []) [int x] (str (tx x))) (hok : ∀ s ∈ p, LineOk tx s) (hlen : (Lib.join ((p.map (lineP tx)).map (·.data.toList)) []).length ≤ 140737488355328) :
  PCalls Tryz.prog Γ 95 [prA p, int n] (.tup [str (if checkFormE p n = 0 then printP tx p else ⟨#[]⟩), int (checkFormE p n)]) := by
 refine pcalls (ok95 Γ) fun σ => ?_
 simp only [go_sem, Tryz.f95]
 refine callB_use (f29 p n hp (fun s hs => by have := hpc s hs; omega) hG1) rfl ?_
 by_cases h1 : checkFormE p n = 0
 ·simp only [go_sem, h1]
  refine callB_use (f183 p hp (.fn (.func 184) [] []) (lineP tx) (fun s hs => dcall_of (f184 tx s (hpc s hs) hG3 (hI s hs) (hok s hs)) rfl)) rfl ?_
  simp only [go_sem, h1]
  refine callB_use (f182 (p.map (lineP tx)) ⟨#[]⟩ (by simpa using hp) hlen) rfl ?_
  simp only [go_sem, h1]
  exact retP_eq rfl
 ·simp only [go_sem, h1]
  exact retP_eq (by rfl)
def reachF (p : List St) : Nat → List Nat → List Nat → List St
 | 0, _, _ => []
 | _ + 1, [], _ => []
 | f + 1, i :: todo, seen =>
  if i ∈ seen then reachF p f todo seen
  else match p[i]? with
   | none => []
   | some s => s :: reachF p f (if s.leaf then todo else todo ++ [s.k0.toNat, s.k1.toNat]) (seen ++ [i])
theorem pigeon : ∀ (n : Nat) (l : List Nat), l.Nodup → (∀ i ∈ l, i < n) → l.length ≤ n
 | 0, l, _, h => by
  cases l with
  | nil => simp
  | cons i l => have := h i (by simp); omega
 | n + 1, l, hd, h => by
  by_cases hm : n ∈ l
  ·have h1 := pigeon n (l.erase n) (hd.erase n) fun i hi => by
    have h2 := (hd.mem_erase_iff).1 hi
    have := h i h2.2
    have := h2.1
    omega
   rw [List.length_erase_of_mem hm] at h1
   omega
  ·have := pigeon n l hd fun i hi => by
    have h2 := h i hi
    have : i ≠ n := fun e => hm (e ▸ hi)
    omega
   omega
theorem natI_mem (i : Nat) (l : List Nat) : ((i : Int) ∈ natI l) = (i ∈ l) := by
 simp only [natI, List.mem_map, eq_iff_iff]
 constructor
 ·rintro ⟨a, h, e⟩
  have : a = i := by omega
  exact this ▸ h
 ·exact fun h => ⟨i, h, rfl⟩
theorem appB_part {P : Program} {Γ : Glob} {t0 t1 : TypeId} {k : TK} {bytes : Nat} (hT : AppT P t0 t1 k bytes) (hk : k.size = 1) {σ : Sig} {b off m c n : Nat} {cs ys xs : List AV} (hb : σ b = some (.row cs 1 c)) (hm : off + m ≤ cs.length) (hys : (cs.drop off).take m = ys) (hone : xs.all AV.one = true) (hxl : xs.length = n) (hsum : (m + n) * bytes ≤ 140737488355328) {K : AV → Sig → Prop}
  (h : ∀ b' off' c' cs', (b' = b ∨ σ b' = none) → (cs'.drop off').take (m + n) = ys ++ xs → off' + (m + n) ≤ cs'.length → K (.own b' 1 off' (m + n)) (upd (ers σ b) b' (some (.row cs' 1 c')))) : appB P Γ σ t0 t1 (.own b 1 off m) (.sl xs n) K := by
 intro ty
 have hyl : ys.length = m := by rw [← hys]; simp; omega
 have := append_own (P := P) (Γ := Γ) (ty := ty) (σ := σ) hT (b := b) (off := off) (m := m) (c := c) (cs := cs) (by rw [hk]; exact hb) (by rw [hk]; omega) (x := .sl xs n) (xs := xs) (n := n) ⟨rfl, rfl, by rw [hk]; omega⟩ hone hsum (K := K) fun b' off' c' pre h1 h2 h3 => by
  rw [hk] at h1 ⊢
  refine h b' off' c' _ h3 ?_ ?_
  ·rw [Nat.mul_one, Nat.mul_one, hys, List.append_assoc, List.drop_append_of_le_length (by omega)]
   have : pre.drop off' = [] := List.drop_of_length_le (by omega)
   rw [this, List.nil_append, List.take_of_length_le]
   simp; omega
  ·rw [Nat.mul_one, Nat.mul_one, hys]
   simp; omega
 rw [hk] at this
 exact this
theorem us337 : Tryz.prog.underlying 337 = some (.map 3 4) := by kernel_rfl
theorem zero4 (w : World) : (zeroValue 4).run Tryz.prog w = .ok (.bool false) w := by kernel_rfl
def fuelOf (p : List St) (todo seen : List Nat) : Nat := 3 * (p.length - seen.length) + todo.length
theorem f242 (p : List St) (hp : Fits p.length) (hne : p ≠ []) (m : Nat) (hok : okSteps p m) (F : Nat) (hF : 3 * p.length + 1 < F) (yv : AV) (S : Nat → Sig) (hS : ∀ k b, S k b = none ↔ S 0 b = none)
  (hy : ∀ (k : Nat) (s : St) (σ : Sig) (K : AV → Sig → Prop), (reachF p F [p.length - 1] [])[k]? = some s → Drop σ (S k) → (∀ σ', Drop σ' (S (k + 1)) → (∀ b, S 0 b = none → σ b ≠ none → σ' b = σ b) → K (.v (.bool true)) σ') → callB Tryz.prog Γ yv [stA s] σ K)
  {K : AV → Sig → Prop} (hK : ∀ σ', Drop σ' (S (reachF p F [p.length - 1] []).length) → K (.tup []) σ') : ACalls Tryz.prog Γ 242 [yv, .pp [slS p] 0] (S 0) K := by
 refine acalls (ok242 Γ) ?_
 have hpl : 0 < p.length := List.length_pos_iff.2 hne
 have hw : IntKind.i64.wrap ((p.length : Int) - 1) = ((p.length - 1 : Nat) : Int) := by rw [wrap_i64 _ (by omega) (by omega)]; omega
 simp only [go_sem, Tryz.f242, hw]
 intro b3 hb3
 simp only [go_sem, hw]
 intro b4 hb4
 obtain ⟨n34, hb4⟩ := upd_none hb4
 have n34' : ¬ b3 = b4 := fun e => n34 e.symm
 generalize hR : reachF p F [p.length - 1] [] = R at hy hK
 simp only [go_sem, hw]
 refine SemC.loopS mixed (fun (st : Nat × List Nat × List Nat) ρ σ' ds => (ds = [] ∧ ρ 0 = yv ∧ ρ 1 = .pp [slS p] 0 ∧ ρ 3 = .v (.map (some b3)) ∧ σ' b3 = some (.map (seenM (natI st.2.2)))) ∧
   (∃ b off cs c, ρ 4 = .own b 1 off st.2.1.length ∧ σ' b = some (.row cs 1 c) ∧ S 0 b = none ∧ (cs.drop off).take st.2.1.length = ints (natI st.2.1) ∧ off + st.2.1.length ≤ cs.length) ∧ Drop σ' (S st.1) ∧ st.2.2.Nodup ∧ (∀ i ∈ st.2.2, i < p.length) ∧ (∀ i ∈ st.2.1, i < p.length) ∧ st.2.1.length ≤ 1 + 2 * st.2.2.length ∧
   st.1 ≤ R.length ∧ ∃ f, fuelOf p st.2.1 st.2.2 < f ∧ R.drop st.1 = reachF p f st.2.1 st.2.2)
  (fun st => fuelOf p st.2.1 st.2.2) (0, [p.length - 1], []) (by kernel_rfl) ⟨by simp only [go_sem, upd_at, n34']; rfl, ⟨b4, 0, [int (p.length - 1 : Nat)], 1, by simp only [go_sem], by simp only [go_sem, upd_at], hb4, rfl, by simp⟩, by repeat (first | exact Drop.refl _ | refine Drop.upd ?_ (by assumption)), List.nodup_nil, by simp, by simp; omega, by simp, by simp, F, by simp [fuelOf]; omega, by rw [← hR]; rfl⟩ ?_
 rintro ⟨k, todo, seen⟩ ρ σ' ds ⟨⟨rfl, h0, h1, h3, hm⟩, ⟨b, off, cs, c, h4, hb, hbn, hcs, hle⟩, hD, hnd, hsl, htl, hlt2, hkR, f, hf, hz⟩
 simp only at h0 h1 h3 hm h4 hb hbn hcs hle hD hnd hsl htl hlt2 hkR hf hz
 cases todo with
 | nil =>
  obtain ⟨f, rfl⟩ : ∃ g, f = g + 1 := ⟨f - 1, by omega⟩
  rw [reachF] at hz
  have hkl : k = R.length := by
   have := List.drop_eq_nil_iff.1 hz
   omega
  simp only [go_sem, h0, h1, h3, h4, List.length_nil, Nat.lt_irrefl]
  subst hkl
  exact hK _ hD
 | cons i todo =>
  obtain ⟨f, rfl⟩ : ∃ g, f = g + 1 := ⟨f - 1, by omega⟩
  rw [reachF] at hz
  have hc0 : cs[off]? = some (int i) := by
   have := congrArg (·[0]?) hcs
   simpa [natI, ints, List.getElem?_take, List.getElem?_drop] using this
  have hip := htl i (by simp)
  have hcs' : (cs.drop (off + 1)).take todo.length = ints (natI todo) := by
   have e := hcs
   rw [drop_of_get hc0, List.length_cons, List.take_succ_cons] at e
   exact (List.cons.inj e).2
  have hpos : (0 : Int) < ((todo.length + 1 : Nat) : Int) := by omega
  have hpos1 : (1 : Int) ≤ ((todo.length + 1 : Nat) : Int) := by omega
  simp only [go_sem, h0, h1, h3, h4, List.length_cons, hb, hc0, hpos, hpos1]
  refine lookB_seen us337 us3 zero4 hm ?_
  have hbb3 : ¬ b = b3 := fun e => by subst e; rw [hm] at hb; cases hb
  have hbb3' : ¬ b3 = b := fun e => hbb3 e.symm
  by_cases hin : i ∈ seen
  ·have hin' : ((i : Int) ∈ natI seen) = True := eq_true (by rw [natI_mem]; exact hin)
   rw [if_pos hin] at hz
   simp only [go_sem, h0, h1, h3, h4, List.length_cons, hb, hc0, hin', Nat.add_sub_cancel]
   refine ⟨(k, todo, seen), by simp [fuelOf], hm, ⟨b, off + 1, cs, c, rfl, hb, hbn, hcs', by simp only [List.length_cons] at hle; show off + 1 + todo.length ≤ cs.length; omega⟩, hD, hnd, hsl, fun j hj => htl j (by simp [hj]), by simp only [List.length_cons] at hlt2; show todo.length ≤ 1 + 2 * seen.length; omega, hkR, f, by simp [fuelOf] at hf ⊢; omega, hz⟩
  ·have hin' : ((i : Int) ∈ natI seen) = False := eq_false (by rw [natI_mem]; exact hin)
   rw [if_neg hin] at hz
   obtain ⟨s, hs⟩ : ∃ s, p[i]? = some s := ⟨p[i], List.getElem?_eq_getElem hip⟩
   rw [hs] at hz
   simp only at hz
   have hget : R[k]? = some s := by
    have := congrArg (·[0]?) hz
    simpa [List.getElem?_drop] using this
   have hz' : R.drop (k + 1) = reachF p f (if s.leaf then todo else todo ++ [s.k0.toNat, s.k1.toNat]) (seen ++ [i]) := by
    rw [drop_of_get hget] at hz
    exact (List.cons.inj hz).2
   have hk1 : k + 1 ≤ R.length := lt_of_getElem? hget
   have hnd' : (seen ++ [i]).Nodup := by
    rw [List.nodup_append]
    exact ⟨hnd, by simp, fun a ha b hb => by simp at hb; subst hb; exact fun e => hin (e ▸ ha)⟩
   have hsl' : ∀ j ∈ seen ++ [i], j < p.length := fun j hj => by
    rcases List.mem_append.1 hj with h | h
    ·exact hsl j h
    ·simp at h; subst h; exact hip
   have hpg := pigeon p.length _ hnd' hsl'
   simp only [List.length_append, List.length_singleton] at hpg
   have hnat : natI (seen ++ [i]) = natI seen ++ [(i : Int)] := by simp [natI]
   simp only [go_sem, h0, h1, h3, h4, List.length_cons, hb, hc0, hin', Nat.add_sub_cancel]
   refine mupB_seen us337 us3 hm (by rw [natI_mem]; exact hin) ?_
   simp only [go_sem, h0, h1, h3, h4, List.length_cons, hb, hc0, hip, hs, ↓st_part hs]
   intro b6 hb6
   have n63 : ¬ b6 = b3 := (upd_none hb6).1
   have hb6' := (upd_none hb6).2
   have n63' : ¬ b3 = b6 := fun e => n63 e.symm
   have n6b : ¬ b = b6 := fun e => by subst e; rw [hb] at hb6'; cases hb6'
   simp only [go_sem, h0, h1, h3, h4, List.length_cons, hb, hc0, hip, hs, ↓st_part hs, n63, n63', n6b]
   have hS3 : S k b3 = none := (hS k b3).2 hb3
   have hS6 : S k b6 = none := hD.free hb6'
   have hS60 : S 0 b6 = none := (hS k b6).1 hS6
   refine hy k s _ _ hget (by repeat (first | assumption | refine Drop.upd ?_ (by assumption))) (fun σy hDy hKy => ?_)
   have y3 : σy b3 = some (.map (seenM (natI (seen ++ [i])))) := by
    rw [hKy b3 hb3 (by simp [upd, n63'])]
    simp [upd, n63', hnat]
   have yb : σy b = some (.row cs 1 c) := by
    rw [hKy b hbn (by simp [upd, n6b, hbb3, hb])]
    simp [upd, n6b, hbb3, hb]
   have y6 : σy b6 = some (.row (stC s) 6 1) := by
    rw [hKy b6 hS60 (by simp [upd])]
    simp [upd, stC, slI, int]
   cases hleaf : s.leaf with
   | true =>
    simp only [hleaf, if_true] at hz'
    simp only [stC, hleaf] at y6
    simp only [go_sem, h0, h1, h3, h4, y6, hleaf]
    exact ⟨(k + 1, todo, seen ++ [i]), by simp [fuelOf]; omega, y3, ⟨b, off + 1, cs, c, rfl, yb, hbn, hcs', by simp only [List.length_cons] at hle; show off + 1 + todo.length ≤ cs.length; omega⟩, hDy, hnd', hsl', fun j hj => htl j (by simp [hj]), by simp only [List.length_cons, List.length_append, List.length_nil] at hlt2 ⊢; omega, hk1, f, by simp [fuelOf] at hf ⊢; omega, hz'⟩
   | false =>
    obtain ⟨v, ka, kb, hv, hvm, ha, hai, hb1, hbi⟩ := hok i s hs hleaf
    simp only [hleaf, Bool.false_eq_true, if_false, ha, hb1, Int.toNat_natCast] at hz'
    simp only [stC, hleaf, ha, hb1] at y6
    simp only [go_sem, h0, h1, h3, h4, y6, hleaf]
    simp only [List.length_cons] at hlt2 hle
    refine appB_part (appT_sl el46 tk3 by3 el46 (by decide) rfl (by decide)) (off := off + 1) (m := todo.length) (n := 2) (bytes := 8) (cs := cs) rfl yb (by omega) hcs' rfl rfl (by omega) (fun b' off' c' cs' hb' ht' hl' => ?_)
    have nb' : ¬ b3 = b' := by
     rcases hb' with rfl | h
     ·exact hbb3'
     ·intro e; subst e; rw [y3] at h; cases h
    have hSb : S (k + 1) b = none := (hS _ _).2 hbn
    have hSb' : S (k + 1) b' = none := by
     rcases hb' with rfl | h
     ·exact hSb
     ·exact hDy.free h
    simp only [go_sem, h0, h1, h3, h4, y6, hleaf]
    exact ⟨(k + 1, todo ++ [ka, kb], seen ++ [i]), by simp [fuelOf]; omega, by simp only [upd_at, ers_at, nb', hbb3', if_false, y3], ⟨b', off', cs', c', by simp, by simp [upd], (hS _ _).1 hSb', by simpa [natI, ints, int] using ht', by simpa using hl'⟩, (hDy.ersL hSb).upd hSb', hnd', hsl', fun j hj => by
     rcases List.mem_append.1 hj with h | h
     ·exact htl j (by simp [h])
     ·simp at h; omega, by simp only [List.length_append, List.length_cons, List.length_nil]; omega, hk1, f, by simp [fuelOf] at hf ⊢; omega, hz'⟩
theorem f187 (p : List St) : PCalls Tryz.prog Γ 187 [prA p] (.fn (.func 242) [] [.pp [slS p] 0]) := by
 refine pcalls (ok187 Γ) fun σ => ?_
 simp only [go_sem, Tryz.f187]
def cntL (l : List St) : Nat := (l.filter (·.leaf)).length
def reachP (p : List St) : List St := reachF p (3 * p.length + 2) [p.length - 1] []
theorem loop_same {lp : Loop} (h : lp.state = .ready) (h' : lp.pending = none) : { lp with state := .ready, pending := none } = lp := by
 cases lp
 simp_all
theorem Drop.of {σ τ : Sig} (h : ∀ b, τ b ≠ none → σ b = τ b) : Drop σ τ := fun b => by
 by_cases hb : τ b = none
 ·exact .inl hb
 ·exact .inr (h b hb).symm
theorem Drop.at {σ τ : Sig} {b : Nat} {x : Blk} (h : Drop σ τ) (hb : τ b = some x) : σ b = some x := by
 rcases h b with h | h
 ·rw [hb] at h; cases h
 ·rw [← h, hb]
theorem cntL_step {R : List St} {k : Nat} {s : St} (h : R[k]? = some s) : cntL (R.take (k + 1)) = cntL (R.take k) + (if s.leaf then 1 else 0) := by
 rw [take_succ h, cntL, cntL, List.filter_append, List.length_append]
 cases hs : s.leaf <;> simp [hs]
theorem cntL_le (l : List St) : cntL l ≤ l.length := List.length_filter_le _ _
theorem SemC.env {p : Par} {ro : Option Nat} {N : Nat} {c : Code} {Q : Post} {ρ : Env} {σ : Sig} {ds : List Nat} (h : ∀ E, E = ρ → SemC p ro N c Q E σ ds) : SemC p ro N c Q ρ σ ds := h ρ rfl
theorem SemC.code_eq {p : Par} {ro : Option Nat} {N : Nat} {c c' : Code} {Q : Post} {ρ : Env} {σ : Sig} {ds : List Nat} (e : c = c') (h : SemC p ro N c' Q ρ σ ds) : SemC p ro N c Q ρ σ ds := e ▸ h
theorem envOf_range (N : Nat) (ρ : Env) (t : Nat) : envOf ((List.range N).map ρ) t = if t < N then ρ t else .v undef := by
 have key : ∀ (l : List AV) (t : Nat), envOf l t = (l[t]?).getD (.v undef) := by
  intro l
  induction l with
  | nil => intro t; simp [envOf]
  | cons a l ih => intro t; cases t <;> simp [envOf, ih]
 rw [key, List.getElem?_map]
 by_cases h : t < N
 ·rw [if_pos h, List.getElem?_range h]; rfl
 ·rw [if_neg h, List.getElem?_eq_none (by simpa using h)]; rfl
theorem f102 (p : List St) (n : Int) (hp : Fits p.length) (hpc : ∀ s ∈ p, Fits s.factors.length) (hG1 : Γ 1 = some [int 0, int 0]) (hR : (reachP p).length ≤ 1000000) :
  PCalls Tryz.prog Γ 102 [prA p, int n] (.tup [int (if checkFormE p n = 0 then (cntL (reachP p) : Int) else 0), int (checkFormE p n)]) := by
 refine pcalls (ok102 Γ) fun σ => ?_
 simp only [go_sem, Tryz.f102]
 refine callB_use (f29 p n hp hpc hG1) rfl ?_
 by_cases h1 : checkFormE p n = 0
 ·have hv : ∃ m : Nat, n = m := by
   unfold checkFormE at h1
   by_cases he : firstE [withinE n 0 8, whenE (decide ((p.length : Int) = 0)) 10, whenE (decide (127 < (p.length : Int))) 5] = 0
   ·have := (firstE_zero _).1 he (withinE n 0 8) (by simp)
    unfold withinE at this
    split at this
    ·simp at this
    ·exact ⟨n.toNat, by omega⟩
   ·rw [if_neg he] at h1; exact absurd h1 he
  obtain ⟨m, rfl⟩ := hv
  obtain ⟨hne, _, hok⟩ := form_ok h1
  simp only [go_sem, h1]
  intro b7 hb7
  simp only [go_sem, h1]
  refine callB_use (f187 p) rfl ?_
  simp only [go_sem, h1]
  refine SemC.env fun E hE => ?_
  have h7 : E 7 = .v (.pointer (some ⟨b7, 0, none⟩)) := by rw [hE]; simp only [go_sem]
  have h16 : E 16 = .fn (.func 242) [] [.pp [slS p] 0] := by rw [hE]; simp only [go_sem]
  clear hE
  refine SemC.rangeFunc (f := 242) (first := []) (captured := [.pp [slS p] 0]) h16 (fun r l lp hr hl hlr hps has hbd hst hpe htm => ?_)
  have hc7 : envOf ((List.range 23).map E) 7 = .v (.pointer (some ⟨b7, 0, none⟩)) := by rw [envOf_range, if_pos (by decide)]; exact h7
  generalize hcs : (List.range 23).map E = cs at hc7
  obtain ⟨nl7, hl⟩ := upd_none hl
  obtain ⟨nr7, hr⟩ := upd_none hr
  have nl7' : ¬ b7 = l := fun e => nl7 e.symm
  have nr7' : ¬ b7 = r := fun e => nr7 e.symm
  have hrl : ¬ r = l := fun e => hlr e.symm
  have hS0 : upd (upd (upd σ b7 (some (.row [.v (.int .i64 0)] 1 1))) r (some (.obj (.deferred (some []))))) l (some (.loop lp cs)) = upd (upd (upd σ r (some (.obj (.deferred (some []))))) l (some (.loop lp cs))) b7 (some (.row [int (cntL ((reachP p).take 0))] 1 1)) := by
   rw [upd_comm σ b7 r _ _ nr7', upd_comm _ b7 l _ _ nl7']; rfl
  generalize hB : upd (upd σ r (some (.obj (.deferred (some []))))) l (some (.loop lp cs)) = B at hS0
  have hBl : B l = some (.loop lp cs) := by rw [← hB, upd_same]
  have hBr : B r = some (.obj (.deferred (some []))) := by rw [← hB, upd_ne _ _ _ _ hrl, upd_same]
  have hBo : ∀ i, ¬ i = r → ¬ i = l → B i = σ i := fun i h1 h2 => by rw [← hB, upd_ne _ _ _ _ h2, upd_ne _ _ _ _ h1]
  have hlst := loop_same hst hpe
  refine ACalls.mono (K := fun _ σ' => Drop σ' (upd B b7 (some (.row [int (cntL ((reachP p).take (reachP p).length))] 1 1)))) ?_ ?_
  ·show ACalls Tryz.prog Γ 242 ([] ++ [AV.fn (Fn.yield l) [] []] ++ [AV.pp [slS p] 0]) (upd (upd (upd σ b7 (some (.row [.v (.int .i64 0)] 1 1))) r (some (.obj (.deferred (some []))))) l (some (.loop lp cs))) _
   rw [hS0]
   refine f242 p hp hne m hok (3 * p.length + 2) (by omega) (.fn (.yield l) [] []) (fun k => upd B b7 (some (.row [int (cntL ((reachP p).take k))] 1 1))) (fun k i => by simp only [upd]; split <;> simp) ?_ (fun σ' h => h)
   intro k s σ' K hget hD hK
   have e7 := hD.at (upd_same _ _ _)
   have el := hD.at ((upd_ne _ _ _ _ nl7).trans hBl)
   have hcl : cntL ((reachP p).take k) ≤ 1000000 := Nat.le_trans (cntL_le _) (by rw [List.length_take]; omega)
   have hstep : cntL ((reachP p).take (k + 1)) = cntL ((reachP p).take k) + (if s.leaf then 1 else 0) := cntL_step hget
   refine yield_call (p := p102 Γ) (N := 23) (lp := lp) el hps hst htm (by decide) ?_
   rw [has]
   refine codeW_sound (p := p102 Γ) mixed _ _ _ _ _ (by kernel_rfl) ?_
   simp only [go_sem, hc7]
   intro b8 hb8
   have n87 := none_ne hb8 e7
   have n8l := none_ne hb8 el
   have n8l' : ¬ b8 = l := fun e => n8l e.symm
   have n87' : ¬ b8 = b7 := fun e => n87 e.symm
   simp only [go_sem, hc7]
   refine ⟨rfl, _, by rw [upd_ne _ _ _ _ n8l, el], ?_⟩
   refine SemC.code_eq hbd (codeW_sound (p := p102 Γ) mixed _ _ _ _ _ (by kernel_rfl) ?_)
   cases hleaf : s.leaf with
   | true =>
    simp only [go_sem, hc7, upd_at, n87, n8l, n8l', n87', nl7', nl7, e7, hleaf]
    rw [hleaf] at hstep
    simp only [if_true] at hstep
    rw [wrap_succ _ (by omega), ← hstep]
    refine ⟨cs, by simp only [upd_at, nl7, if_false, if_true], ?_⟩
    show K _ _
    rw [hlst]
    refine hK _ (Drop.of ?_) ?_
    ·intro i hi
     by_cases i1 : i = l
     ·subst i1; rw [upd_same, upd_ne _ _ _ _ nl7, hBl]
     ·by_cases i2 : i = b7
      ·subst i2
       simp only [upd_at, nl7', if_false, if_true, int]
      ·rcases hD i with h | h
       ·rw [upd_ne _ _ _ _ i2] at h hi
        exact absurd h hi
       ·have i3 : ¬ i = b8 := fun e => by
         subst e
         rw [hb8] at h
         rw [upd_ne _ _ _ _ i2] at h hi
         exact hi h
        rw [upd_ne _ _ _ _ i2] at h
        simp only [upd_at, i1, i2, i3, if_false]
        exact h.symm
    ·intro i hi hne
     have i1 : ¬ i = l := fun e => by subst e; rw [upd_ne _ _ _ _ nl7, hBl] at hi; cases hi
     have i2 : ¬ i = b7 := fun e => by subst e; rw [upd_same] at hi; cases hi
     have i3 : ¬ i = b8 := fun e => by subst e; exact hne hb8
     simp only [upd_at, i1, i2, i3, if_false]
   | false =>
    simp only [go_sem, hc7, upd_at, n87, n8l, n8l', n87', nl7', nl7, e7, hleaf]
    rw [hleaf] at hstep
    simp only [Bool.false_eq_true, if_false, Nat.add_zero] at hstep
    refine ⟨cs, by simp only [upd_at, nl7, if_false, if_true], ?_⟩
    show K _ _
    rw [hlst]
    refine hK _ (Drop.of ?_) ?_
    ·intro i hi
     by_cases i1 : i = l
     ·subst i1; rw [upd_same, upd_ne _ _ _ _ nl7, hBl]
     ·by_cases i2 : i = b7
      ·subst i2
       simp only [upd_at, nl7', n87, if_false, if_true, e7, hstep]
      ·rcases hD i with h | h
       ·rw [upd_ne _ _ _ _ i2] at h hi
        exact absurd h hi
       ·have i3 : ¬ i = b8 := fun e => by
         subst e
         rw [hb8] at h
         rw [upd_ne _ _ _ _ i2] at h hi
         exact hi h
        rw [upd_ne _ _ _ _ i2] at h
        simp only [upd_at, i1, i2, i3, if_false]
        exact h.symm
    ·intro i hi hne
     have i1 : ¬ i = l := fun e => by subst e; rw [upd_ne _ _ _ _ nl7, hBl] at hi; cases hi
     have i2 : ¬ i = b7 := fun e => by subst e; rw [upd_same] at hi; cases hi
     have i3 : ¬ i = b8 := fun e => by subst e; exact hne hb8
     simp only [upd_at, i1, i2, i3, if_false]
  ·intro _ σ' hD
   have e7 := hD.at (upd_same _ _ _)
   have el := hD.at ((upd_ne _ _ _ _ nl7).trans hBl)
   have er := hD.at ((upd_ne _ _ _ _ nr7).trans hBr)
   refine ⟨.ready, none, _, by rw [el, hlst], by simp, ?_⟩
   simp only [go_sem, h7, e7, nl7']
   refine ⟨.inr rfl, fun r' hr' => ?_, by simp, _, rfl, ?_⟩
   ·simp only [List.mem_singleton] at hr'
    subst hr'
    rw [ers_ne _ _ _ hrl, er]
   ·have hres : (if checkFormE p (m : Int) = 0 then (cntL (reachP p) : Int) else 0) = cntL (reachP p) := if_pos h1
    rw [hres, h1, List.take_length]
    refine retP_drop (fun i => ?_) rfl
    by_cases i1 : i = r
    ·subst i1; exact .inl hr
    ·by_cases i2 : i = l
     ·subst i2; exact .inl hl
     ·by_cases i3 : i = b7
      ·subst i3; exact .inl hb7
      ·have := hD i
       rw [upd_ne _ _ _ _ i3, hBo i i1 i2] at this
       show σ i = none ∨ σ i = ers (ers σ' l) r i
       rw [ers_ne _ _ _ i1, ers_ne _ _ _ i2]
       exact this
 ·simp only [go_sem, h1]
def fst29 : List Tm := [⟨[1], -3⟩, ⟨[-1], 2⟩]
def snd29 : List Tm := [⟨[2], -3⟩, ⟨[-2], 3⟩]
def thd29 : List Tm := [⟨[1, 1], -4⟩, ⟨[-1, -2], 5⟩, ⟨[-1, 1], 0⟩]
def pr29 : List St := [⟨true, [1, 1], 0, 0, 0, 0⟩]
theorem a86_1 : PCalls Tryz.prog Γ 86 [slT fst29] (.tup [prA pr29, .v (.bool true), int 0]) := by
 have h := f86 (Γ := Γ) fst29 (by decide) (by decide)
 have e1 : checkTermsE fst29 = 0 := by kernel_rfl
 have e2 : pairP fst29 = (pr29, true) := by kernel_rfl
 rw [e1, e2] at h
 exact h
theorem a86_2 : PCalls Tryz.prog Γ 86 [slT [⟨[2], -3⟩]] (.tup [prA [], .v (.bool false), int 0]) := by
 have h := f86 (Γ := Γ) [⟨[2], -3⟩] (by decide) (by decide)
 have e1 : checkTermsE [⟨[2], -3⟩] = 0 := by kernel_rfl
 have e2 : pairP [⟨[2], -3⟩] = ([], false) := by kernel_rfl
 rw [e1, e2] at h
 exact h
theorem a23_1 (hG : Γ 1 = some [int 0, int 0]) : PCalls Tryz.prog Γ 23 [slT fst29, prA pr29] (.tup [int 0, int 0]) := by
 have h := f23 (Γ := Γ) fst29 pr29 (by decide) (by decide) (by decide) (by decide) hG
 have e : checkP fst29 pr29 = (0, 0) := by kernel_rfl
 rw [e] at h
 exact h
theorem a23_2 (hG : Γ 1 = some [int 0, int 0]) : PCalls Tryz.prog Γ 23 [slT snd29, prA splitP] (.tup [int 0, int 0]) := by
 have h := f23 (Γ := Γ) snd29 splitP (by decide) (by decide) (by decide) (by decide) hG
 have e : checkP snd29 splitP = (0, 0) := by kernel_rfl
 rw [e] at h
 exact h
theorem a23_3 (hG : Γ 1 = some [int 0, int 0]) : PCalls Tryz.prog Γ 23 [slT snd29, prA pr29] (.tup [int 0, int 29]) := by
 have h := f23 (Γ := Γ) snd29 pr29 (by decide) (by decide) (by decide) (by decide) hG
 have e : checkP snd29 pr29 = (0, 29) := by kernel_rfl
 rw [e] at h
 exact h
theorem a85_1 : PCalls Tryz.prog Γ 85 [slT thd29, slR [⟨0, 10⟩, ⟨0, 10⟩]] (.tup [slR [], int 28]) := by
 have h := f85 (Γ := Γ) thd29 [⟨0, 10⟩, ⟨0, 10⟩] (by decide) (by decide) (by decide)
 have e : NarrowedP thd29 [⟨0, 10⟩, ⟨0, 10⟩] = ([], 28) := by kernel_rfl
 rw [e] at h
 exact h
theorem a85_2 : PCalls Tryz.prog Γ 85 [slT [⟨[1], -3⟩], slR [⟨0, 9⟩]] (.tup [slR [⟨3, 9⟩], int 0]) := by
 have h := f85 (Γ := Γ) [⟨[1], -3⟩] [⟨0, 9⟩] (by decide) (by decide) (by decide)
 have e : NarrowedP [⟨[1], -3⟩] [⟨0, 9⟩] = ([⟨3, 9⟩], 0) := by kernel_rfl
 rw [e] at h
 exact h
theorem a31_1 : PCalls Tryz.prog Γ 31 [slT [⟨[1], -3⟩], slR [⟨0, 9⟩], int 4] (.tup [slI [3], .v (.bool true), int 0]) := by
 have h := f31 (Γ := Γ) [⟨[1], -3⟩] [⟨0, 9⟩] 4 (by decide) (by decide) (by decide)
 have e : SearchP [⟨[1], -3⟩] [⟨0, 9⟩] 4 = ([3], true, 0) := by kernel_rfl
 rw [e] at h
 exact h
theorem a31_2 : PCalls Tryz.prog Γ 31 [slT [⟨[1], -3⟩], slR [⟨0, 9⟩], int 3] (.tup [slI [], .v (.bool false), int 30]) := by
 have h := f31 (Γ := Γ) [⟨[1], -3⟩] [⟨0, 9⟩] 3 (by decide) (by decide) (by decide)
 have e : SearchP [⟨[1], -3⟩] [⟨0, 9⟩] 3 = ([], false, 30) := by kernel_rfl
 rw [e] at h
 exact h
theorem a31_3 : PCalls Tryz.prog Γ 31 [slT thd29, slR [⟨0, 10⟩, ⟨0, 10⟩], int 1] (.tup [slI [], .v (.bool false), int 0]) := by
 have h := f31 (Γ := Γ) thd29 [⟨0, 10⟩, ⟨0, 10⟩] 1 (by decide) (by decide) (by decide)
 have e : SearchP thd29 [⟨0, 10⟩, ⟨0, 10⟩] 1 = ([], false, 0) := by kernel_rfl
 rw [e] at h
 exact h
def txq (n : Int) : ByteArray := if n = 0 then ⟨#[48]⟩ else if n = 1 then ⟨#[49]⟩ else ⟨#[50]⟩
theorem txq_ok (x : Int) (h : x = 0 ∨ x = 1 ∨ x = 2) : DCall Tryz.prog Γ (.fn (.func 238) [] []) [int x] (str (txq x)) := by
 have d0 : Lib.decDigits 0 = [48] := by rw [Lib.decDigits]; rfl
 have d1 : Lib.decDigits 1 = [49] := by rw [Lib.decDigits]; rfl
 have d2 : Lib.decDigits 2 = [50] := by rw [Lib.decDigits]; rfl
 rcases h with rfl | rfl | rfl
 ·have := f238_small (Γ := Γ) 0 (by decide)
  rw [d0] at this
  exact dcall_of this rfl
 ·have := f238_small (Γ := Γ) 1 (by decide)
  rw [d1] at this
  exact dcall_of this rfl
 ·have := f238_small (Γ := Γ) 2 (by decide)
  rw [d2] at this
  exact dcall_of this rfl
def txt29 : ByteArray := ⟨#[108, 101, 97, 102, 32, 49, 32, 48, 32, 50, 10, 108, 101, 97, 102, 32, 48, 32, 49, 32, 50, 10, 115, 112, 108, 105, 116, 32, 48, 32, 49, 32, 48, 32, 49, 10]⟩
theorem a95 (hG1 : Γ 1 = some [int 0, int 0]) (hG3 : Γ 3 = some kindsT) : PCalls Tryz.prog Γ 95 [prA splitP, int 1] (.tup [str txt29, int 0]) := by
 have hx : ∀ s ∈ splitP, ∀ x ∈ lineL s, x = 0 ∨ x = 1 ∨ x = 2 := by decide
 have h := f95 (Γ := Γ) txq splitP 1 (by decide) (by decide) hG1 hG3 (fun s hs x hx' => txq_ok x (hx s hs x hx')) (by
  have : ∀ s ∈ splitP, (Lib.join (((if s.leaf then bLeaf else bSplit) :: (lineL s).map txq).map (·.data.toList)) bSp.data.toList).length ≤ 140737488355328 := by decide
  exact this) (by decide)
 have e1 : checkFormE splitP 1 = 0 := by kernel_rfl
 have e2 : printP txq splitP = txt29 := by kernel_rfl
 rw [e1, if_pos rfl, e2] at h
 exact h
theorem a102 (hG1 : Γ 1 = some [int 0, int 0]) : PCalls Tryz.prog Γ 102 [prA splitP, int 1] (.tup [int 2, int 0]) := by
 have h := f102 (Γ := Γ) splitP 1 (by decide) (by decide) hG1 (by decide)
 have e1 : checkFormE splitP 1 = 0 := by kernel_rfl
 have e2 : cntL (reachP splitP) = 2 := by kernel_rfl
 rw [e1, if_pos rfl, e2] at h
 exact h
set_option maxRecDepth 100000 in
theorem f22 (hG1 : Γ 1 = some [int 0, int 0]) (hG3 : Γ 3 = some kindsT) : PCalls Tryz.prog Γ 22 [] (.v (.bool true)) := by
 refine pcalls (ok22 Γ) fun σ => ?_
 simp only [go_sem, Tryz.f22]
 refine callB_use f112 rfl ?_
 simp only [go_sem]
 refine callB_use (a86_1) rfl ?_
 simp only [go_sem]
 intro b1 hb1
 simp only [go_sem]
 refine dcallB_use (f112) rfl ?_
 simp only [go_sem]
 refine callB_use (a23_1 hG1) rfl ?_
 simp only [go_sem]
 refine callB_use (f113) rfl ?_
 simp only [go_sem]
 refine callB_use (f114) rfl ?_
 simp only [go_sem]
 refine callB_use (a23_2 hG1) rfl ?_
 simp only [go_sem]
 refine callB_use (f113) rfl ?_
 simp only [go_sem]
 refine callB_use (a86_2) rfl ?_
 simp only [go_sem]
 intro b8 hb8
 obtain ⟨n81, hb8⟩ := upd_none hb8
 have n81' : ¬ b1 = b8 := fun e => n81 e.symm
 simp only [go_sem, n81, n81']
 refine callB_use (f113) rfl ?_
 simp only [go_sem, n81, n81']
 refine callB_use (a23_3 hG1) rfl ?_
 simp only [go_sem, n81, n81']
 refine callB_use (f115) rfl ?_
 simp only [go_sem, n81, n81']
 refine callB_use (a85_1) rfl ?_
 simp only [go_sem, n81, n81']
 refine callB_use (f112) rfl ?_
 simp only [go_sem, n81, n81']
 refine callB_use (a85_2) rfl ?_
 simp only [go_sem, n81, n81']
 refine callB_use (f112) rfl ?_
 simp only [go_sem, n81, n81']
 refine callB_use (a31_1) rfl ?_
 simp only [go_sem, n81, n81']
 refine callB_use (f112) rfl ?_
 simp only [go_sem, n81, n81']
 refine callB_use (a31_2) rfl ?_
 simp only [go_sem, n81, n81']
 refine callB_use (f115) rfl ?_
 simp only [go_sem, n81, n81']
 refine callB_use (a31_3) rfl ?_
 simp only [go_sem, n81, n81']
 refine callB_use (f114) rfl ?_
 simp only [go_sem, n81, n81']
 refine callB_use (a95 hG1 hG3) rfl ?_
 simp only [go_sem, n81, n81']
 refine callB_use (f114) rfl ?_
 simp only [go_sem, n81, n81']
 refine callB_use (a102 hG1) rfl ?_
 simp only [go_sem, n81, n81']
 have hfm : pr29.flatMap stC = [.v (.bool true), slI [1, 1], int 0, int 0, int 0, int 0] := rfl
 have hln : pr29.length = 1 := rfl
 have hfr : List.flatMap rgC [⟨3, 9⟩] = [int 3, int 9] := rfl
 have hw0 : IntKind.i64.wrap 0 = 0 := by decide
 simp only [go_sem, List.append_eq, n81, n81', Int.add_zero, hw0, hfm, hln, hfr]
 refine callB_use (f38 [1, 1] [1, 1] (by decide)) rfl ?_
 simp only [go_sem, List.append_eq, n81, n81', Int.add_zero, hw0, hfm, hln, hfr]
 refine callB_use (f38 [3] [3] (by decide)) rfl ?_
 simp only [go_sem, List.append_eq, n81, n81', Int.add_zero, hw0, hfm, hln, hfr, str, txt29, beq_self_eq_true]
 exact retP_drop (((Drop.refl σ).upd hb1).upd hb8) rfl
theorem shortTerms_ok {l : List Tm} (h : shortTermsB l = true) : l.length ≤ 41 ∧ ∀ t ∈ l, t.coeffs.length ≤ 10 := by
 simp only [shortTermsB, Bool.and_eq_true, Bool.or_eq_true, List.all_eq_true, decide_eq_true_eq, shortTermB] at h
 exact ⟨by omega, h.1⟩
theorem short_ok {p : List St} (h : shortB p = true) : p.length ≤ 128 ∧ ∀ s ∈ p, s.factors.length ≤ 168 := by
 simp only [shortB, Bool.and_eq_true, Bool.or_eq_true, List.all_eq_true, decide_eq_true_eq, shortStepB] at h
 exact ⟨by omega, fun s hs => by have := h.1 s hs; omega⟩
end Go.AL
