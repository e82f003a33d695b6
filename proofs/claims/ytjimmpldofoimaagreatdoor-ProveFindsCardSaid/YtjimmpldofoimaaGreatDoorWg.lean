import Derived.Test.YtjimmpldofoimaaGreatDoorAm
import Derived.Test.YtjimmpldofoimaaGreatDoorVa
import Derived.Test.YtjimmpldofoimaaGreatDoorWf
open Nat renaming reduceEqDiff → xQ, reduceAdd → xA, reduceMul → xM, reduceLeDiff → xL
open Int renaming reduceLT → xT, reduceLE → xE, reduceToNat → xN

set_option linter.unusedVariables false
set_option linter.unusedSimpArgs false
namespace Go.AL
open Go.Proofs
variable {Γ : Glob}
attribute [local irreducible] codeW opsW dopsW
def bLeaf : ByteArray := ⟨#[108, 101, 97, 102]⟩
def bSplit : ByteArray := ⟨#[115, 112, 108, 105, 116]⟩
/-- The table of the kinds of steps. -/
def kindsT : List AV := [str bLeaf, .any, .any, str bSplit, .any, .any]
def lineL (s : St) : List Int := if s.leaf then s.factors else [s.var, s.bound, s.k0, s.k1]
def lineP (tx : Int → ByteArray) (s : St) : ByteArray := joinP ((if s.leaf then bLeaf else bSplit) :: (lineL s).map tx) bSp ++ bNl
def LineOk (tx : Int → ByteArray) (s : St) : Prop := (Lib.join (((if s.leaf then bLeaf else bSplit) :: (lineL s).map tx).map (·.data.toList)) bSp.data.toList).length ≤ 140737488355328
theorem f184 (tx : Int → ByteArray) (s : St) (hl : s.factors.length ≤ 1000000) (hG : Γ 3 = some kindsT) (hI : ∀ x ∈ lineL s, DCall Tryz.prog Γ (.fn (.func 238) [] []) [int x] (str (tx x))) (hok : LineOk tx s) : PCalls Tryz.prog Γ 184 [stA s] (str (lineP tx s)) := by
  refine pcalls (ok184 Γ) fun σ => ?_
  have hG' : Γ 3 = some [.v (.string bLeaf), .any, .any, .v (.string bSplit), .any, .any] := hG
  cases hleaf : s.leaf with
  | true =>
    simp only [go_sem, xQ, ↓reduceIte, xA, xM, xL, xT, xE, xN, Tryz.f184, hG', hleaf]
    simp only [lineL, hleaf, Bool.false_eq_true, if_true, if_false] at hI
    simp only [LineOk, lineL, hleaf, Bool.false_eq_true, if_true, if_false] at hok
    intro b hb
    simp only [go_sem, xQ, ↓reduceIte, xA, xM, xL, xT, xE, xN, hleaf]
    refine callB_use (f237 s.factors (by omega) (.fn (.func 238) [] []) tx hI) rfl ?_
    simp only [go_sem, xQ, ↓reduceIte, xA, xM, xL, xT, xE, xN, slStr]
    have hG0 : Grow σ (upd σ b (some (.row [.v (.string bLeaf)] 1 1))) 1 (.own b 1 0 1) [.v (.string bLeaf)] 1 := .inr ⟨b, 1, rfl, hb, upd_same _ _ _, rfl⟩
    refine appB_sl (appT_sl el267 tk9 by9 el267 (by decide) rfl (by decide)) ((Drop.refl σ).upd hb) hG0 (strs_one _) (by simp [strs]) (by simp; omega) (fun a' σ2 hD2 hO hG2 => ?_)
    simp only [go_sem, xQ, ↓reduceIte, xA, xM, xL, xT, xE, xN]
    obtain ⟨σ3, hD23, hD3, hF3, hO3⟩ := hG2.fzers hD2
    have h182 := f182 (Γ := Γ) (bLeaf :: s.factors.map tx) bSp (by simp; omega) hok
    refine callB_drop hD23 h182 (.cons (by simpa [slStr, strs, str, Nat.add_comm] using hF3) (.cons (.refl _) .nil)) ?_
    simp only [go_sem, xQ, ↓reduceIte, xA, xM, xL, xT, xE, xN, str]
    refine ⟨by
      have := joinP_size _ _ hok
      simp only [List.size_toArray, List.length_cons, List.length_nil] at this ⊢
      try simp only [List.map_cons, List.map_nil] at this
      omega, ?_⟩
    simp only [go_sem, xQ, ↓reduceIte, xA, xM, xL, xT, xE, xN]
    exact retP_drop hD3 (by rw [lineP, lineL, hleaf]; rfl)
  | false =>
    simp only [go_sem, xQ, ↓reduceIte, xA, xM, xL, xT, xE, xN, Tryz.f184, hG', hleaf]
    simp only [lineL, hleaf, Bool.false_eq_true, if_true, if_false] at hI
    simp only [LineOk, lineL, hleaf, Bool.false_eq_true, if_true, if_false] at hok
    intro b hb
    simp only [go_sem, xQ, ↓reduceIte, xA, xM, xL, xT, xE, xN, hleaf]
    refine callB_use (f237 [s.var, s.bound, s.k0, s.k1] (by simp) (.fn (.func 238) [] []) tx hI) rfl ?_
    simp only [go_sem, xQ, ↓reduceIte, xA, xM, xL, xT, xE, xN, slStr]
    have hG0 : Grow σ (upd σ b (some (.row [.v (.string bSplit)] 1 1))) 1 (.own b 1 0 1) [.v (.string bSplit)] 1 := .inr ⟨b, 1, rfl, hb, upd_same _ _ _, rfl⟩
    refine appB_sl (appT_sl el267 tk9 by9 el267 (by decide) rfl (by decide)) ((Drop.refl σ).upd hb) hG0 (strs_one _) (by simp [strs]) (by simp) (fun a' σ2 hD2 hO hG2 => ?_)
    simp only [go_sem, xQ, ↓reduceIte, xA, xM, xL, xT, xE, xN]
    obtain ⟨σ3, hD23, hD3, hF3, hO3⟩ := hG2.fzers hD2
    have h182 := f182 (Γ := Γ) (bSplit :: [s.var, s.bound, s.k0, s.k1].map tx) bSp (by simp) hok
    refine callB_drop hD23 h182 (.cons (by simpa [slStr, strs, str, Nat.add_comm] using hF3) (.cons (.refl _) .nil)) ?_
    simp only [go_sem, xQ, ↓reduceIte, xA, xM, xL, xT, xE, xN, str]
    refine ⟨by
      have := joinP_size _ _ hok
      simp only [List.size_toArray, List.length_cons, List.length_nil] at this ⊢
      try simp only [List.map_cons, List.map_nil] at this
      omega, ?_⟩
    simp only [go_sem, xQ, ↓reduceIte, xA, xM, xL, xT, xE, xN]
    exact retP_drop hD3 (by rw [lineP, lineL, hleaf]; rfl)
def printP (tx : Int → ByteArray) (p : List St) : ByteArray := joinP (p.map (lineP tx)) ⟨#[]⟩
theorem f95 (tx : Int → ByteArray) (p : List St) (n : Int) (hp : Fits p.length) (hpc : ∀ s ∈ p, s.factors.length ≤ 1000000) (hG1 : Γ 1 = some [int 0, int 0]) (hG3 : Γ 3 = some kindsT)
    (hI : ∀ s ∈ p, ∀ x ∈ lineL s, DCall Tryz.prog Γ (.fn (.func 238) [] []) [int x] (str (tx x))) (hok : ∀ s ∈ p, LineOk tx s) (hlen : (Lib.join ((p.map (lineP tx)).map (·.data.toList)) []).length ≤ 140737488355328) :
    PCalls Tryz.prog Γ 95 [prA p, int n] (.tup [str (if checkFormE p n = 0 then printP tx p else ⟨#[]⟩), int (checkFormE p n)]) := by
  refine pcalls (ok95 Γ) fun σ => ?_
  simp only [go_sem, xQ, ↓reduceIte, xA, xM, xL, xT, xE, xN, Tryz.f95]
  refine callB_use (f29 p n hp (fun s hs => by have := hpc s hs; omega) hG1) rfl ?_
  by_cases h1 : checkFormE p n = 0
  · simp only [go_sem, xQ, ↓reduceIte, xA, xM, xL, xT, xE, xN, h1]
    refine callB_use (f183 p hp (.fn (.func 184) [] []) (lineP tx) (fun s hs => dcall_of (f184 tx s (hpc s hs) hG3 (hI s hs) (hok s hs)) rfl)) rfl ?_
    simp only [go_sem, xQ, ↓reduceIte, xA, xM, xL, xT, xE, xN, h1]
    refine callB_use (f182 (p.map (lineP tx)) ⟨#[]⟩ (by simpa using hp) hlen) rfl ?_
    simp only [go_sem, xQ, ↓reduceIte, xA, xM, xL, xT, xE, xN, h1]
    exact retP_eq rfl
  · simp only [go_sem, xQ, ↓reduceIte, xA, xM, xL, xT, xE, xN, h1]
    exact retP_eq (by rfl)
end Go.AL

set_option linter.unusedVariables false
set_option linter.unusedSimpArgs false
namespace Go.AL
open Go.Proofs
variable {Γ : Glob}
attribute [local irreducible] codeW opsW dopsW
/-- The steps that are reached from the root, in the program's order: what is to be gone through, what has been. -/
def reachF (p : List St) : Nat → List Nat → List Nat → List St
  | 0, _, _ => []
  | _ + 1, [], _ => []
  | f + 1, i :: todo, seen =>
    if i ∈ seen then reachF p f todo seen
    else match p[i]? with
      | none => []
      | some s => s :: reachF p f (if s.leaf then todo else todo ++ [s.k0.toNat, s.k1.toNat]) (seen ++ [i])
theorem pigeon : ∀ (n : Nat) (l : List Nat), l.Nodup → (∀ i ∈ l, i < n) → l.length ≤ n
  | 0, l, _, h => by
    cases l with
    | nil => simp
    | cons i l => have := h i (by simp); omega
  | n + 1, l, hd, h => by
    by_cases hm : n ∈ l
    · have h1 := pigeon n (l.erase n) (hd.erase n) fun i hi => by
        have h2 := (hd.mem_erase_iff).1 hi
        have := h i h2.2
        have := h2.1
        omega
      rw [List.length_erase_of_mem hm] at h1
      omega
    · have := pigeon n l hd fun i hi => by
        have h2 := h i hi
        have : i ≠ n := fun e => hm (e ▸ hi)
        omega
      omega
theorem natI_mem (i : Nat) (l : List Nat) : ((i : Int) ∈ natI l) = (i ∈ l) := by
  simp only [natI, List.mem_map, eq_iff_iff]
  constructor
  · rintro ⟨a, h, e⟩
    have : a = i := by omega
    exact this ▸ h
  · exact fun h => ⟨i, h, rfl⟩
/-- 'append' of numbers to a row of the walk's own, of which a part is told. -/
theorem appB_part {P : Program} {Γ : Glob} {t0 t1 : TypeId} {k : TK} {bytes : Nat} (hT : AppT P t0 t1 k bytes) (hk : k.size = 1) {σ : Sig} {b off m c n : Nat} {cs ys xs : List AV} (hb : σ b = some (.row cs 1 c)) (hm : off + m ≤ cs.length) (hys : (cs.drop off).take m = ys) (hone : xs.all AV.one = true) (hxl : xs.length = n) (hsum : (m + n) * bytes ≤ 140737488355328) {K : AV → Sig → Prop}
    (h : ∀ b' off' c' cs', (b' = b ∨ σ b' = none) → (cs'.drop off').take (m + n) = ys ++ xs → off' + (m + n) ≤ cs'.length → K (.own b' 1 off' (m + n)) (upd (ers σ b) b' (some (.row cs' 1 c')))) : appB P Γ σ t0 t1 (.own b 1 off m) (.sl xs n) K := by
  intro ty
  have hyl : ys.length = m := by rw [← hys]; simp; omega
  have := append_own (P := P) (Γ := Γ) (ty := ty) (σ := σ) hT (b := b) (off := off) (m := m) (c := c) (cs := cs) (by rw [hk]; exact hb) (by rw [hk]; omega) (x := .sl xs n) (xs := xs) (n := n) ⟨rfl, rfl, by rw [hk]; omega⟩ hone hsum (K := K) fun b' off' c' pre h1 h2 h3 => by
    rw [hk] at h1 ⊢
    refine h b' off' c' _ h3 ?_ ?_
    · rw [Nat.mul_one, Nat.mul_one, hys, List.append_assoc, List.drop_append_of_le_length (by omega)]
      have : pre.drop off' = [] := List.drop_of_length_le (by omega)
      rw [this, List.nil_append, List.take_of_length_le]
      simp; omega
    · rw [Nat.mul_one, Nat.mul_one, hys]
      simp; omega
  rw [hk] at this
  exact this
theorem us337 : Tryz.prog.underlying 337 = some (.map 3 4) := by kernel_rfl
theorem zero4 (w : World) : (zeroValue 4).run Tryz.prog w = .ok (.bool false) w := by kernel_rfl
def fuelOf (p : List St) (todo seen : List Nat) : Nat := 3 * (p.length - seen.length) + todo.length
theorem f242 (p : List St) (hp : Fits p.length) (hne : p ≠ []) (m : Nat) (hok : okSteps p m) (F : Nat) (hF : 3 * p.length + 1 < F) (yv : AV) (S : Nat → Sig) (hS : ∀ k b, S k b = none ↔ S 0 b = none)
    (hy : ∀ (k : Nat) (s : St) (σ : Sig) (K : AV → Sig → Prop), (reachF p F [p.length - 1] [])[k]? = some s → Drop σ (S k) → (∀ σ', Drop σ' (S (k + 1)) → (∀ b, S 0 b = none → σ b ≠ none → σ' b = σ b) → K (.v (.bool true)) σ') → callB Tryz.prog Γ yv [stA s] σ K)
    {K : AV → Sig → Prop} (hK : ∀ σ', Drop σ' (S (reachF p F [p.length - 1] []).length) → K (.tup []) σ') : ACalls Tryz.prog Γ 242 [yv, .pp [slS p] 0] (S 0) K := by
  refine acalls (ok242 Γ) ?_
  have hpl : 0 < p.length := List.length_pos_iff.2 hne
  have hw : IntKind.i64.wrap ((p.length : Int) - 1) = ((p.length - 1 : Nat) : Int) := by rw [wrap_i64 _ (by omega) (by omega)]; omega
  simp only [go_sem, xQ, ↓reduceIte, xA, xM, xL, xT, xE, xN, Tryz.f242, hw]
  intro b3 hb3
  simp only [go_sem, xQ, ↓reduceIte, xA, xM, xL, xT, xE, xN, hw]
  intro b4 hb4
  obtain ⟨n34, hb4⟩ := upd_none hb4
  have n34' : ¬ b3 = b4 := fun e => n34 e.symm
  generalize hR : reachF p F [p.length - 1] [] = R at hy hK
  simp only [go_sem, xQ, ↓reduceIte, xA, xM, xL, xT, xE, xN, hw]
  refine SemC.loopS mixed (fun (st : Nat × List Nat × List Nat) ρ σ' ds => (ds = [] ∧ ρ 0 = yv ∧ ρ 1 = .pp [slS p] 0 ∧ ρ 3 = .v (.map (some b3)) ∧ σ' b3 = some (.map (seenM (natI st.2.2)))) ∧
      (∃ b off cs c, ρ 4 = .own b 1 off st.2.1.length ∧ σ' b = some (.row cs 1 c) ∧ S 0 b = none ∧ (cs.drop off).take st.2.1.length = ints (natI st.2.1) ∧ off + st.2.1.length ≤ cs.length) ∧ Drop σ' (S st.1) ∧ st.2.2.Nodup ∧ (∀ i ∈ st.2.2, i < p.length) ∧ (∀ i ∈ st.2.1, i < p.length) ∧ st.2.1.length ≤ 1 + 2 * st.2.2.length ∧
      st.1 ≤ R.length ∧ ∃ f, fuelOf p st.2.1 st.2.2 < f ∧ R.drop st.1 = reachF p f st.2.1 st.2.2)
    (fun st => fuelOf p st.2.1 st.2.2) (0, [p.length - 1], []) (by kernel_rfl) ⟨by simp only [go_sem, xQ, ↓reduceIte, xA, xM, xL, xT, xE, xN, upd_at, n34']; rfl, ⟨b4, 0, [int (p.length - 1 : Nat)], 1, by simp only [go_sem, xQ, ↓reduceIte, xA, xM, xL, xT, xE, xN], by simp only [go_sem, xQ, ↓reduceIte, xA, xM, xL, xT, xE, xN, upd_at], hb4, rfl, by simp⟩, by repeat (first | exact Drop.refl _ | refine Drop.upd ?_ (by assumption)), List.nodup_nil, by simp, by simp; omega, by simp, by simp, F, by simp [fuelOf]; omega, by rw [← hR]; rfl⟩ ?_
  rintro ⟨k, todo, seen⟩ ρ σ' ds ⟨⟨rfl, h0, h1, h3, hm⟩, ⟨b, off, cs, c, h4, hb, hbn, hcs, hle⟩, hD, hnd, hsl, htl, hlt2, hkR, f, hf, hz⟩
  simp only at h0 h1 h3 hm h4 hb hbn hcs hle hD hnd hsl htl hlt2 hkR hf hz
  cases todo with
  | nil =>
    obtain ⟨f, rfl⟩ : ∃ g, f = g + 1 := ⟨f - 1, by omega⟩
    rw [reachF] at hz
    have hkl : k = R.length := by
      have := List.drop_eq_nil_iff.1 hz
      omega
    simp only [go_sem, xQ, ↓reduceIte, xA, xM, xL, xT, xE, xN, h0, h1, h3, h4, List.length_nil, Nat.lt_irrefl]
    subst hkl
    exact hK _ hD
  | cons i todo =>
    obtain ⟨f, rfl⟩ : ∃ g, f = g + 1 := ⟨f - 1, by omega⟩
    rw [reachF] at hz
    have hc0 : cs[off]? = some (int i) := by
      have := congrArg (·[0]?) hcs
      simpa [natI, ints, List.getElem?_take, List.getElem?_drop] using this
    have hip := htl i (by simp)
    have hcs' : (cs.drop (off + 1)).take todo.length = ints (natI todo) := by
      have e := hcs
      rw [drop_of_get hc0, List.length_cons, List.take_succ_cons] at e
      exact (List.cons.inj e).2
    have hpos : (0 : Int) < ((todo.length + 1 : Nat) : Int) := by omega
    have hpos1 : (1 : Int) ≤ ((todo.length + 1 : Nat) : Int) := by omega
    simp only [go_sem, xQ, ↓reduceIte, xA, xM, xL, xT, xE, xN, h0, h1, h3, h4, List.length_cons, hb, hc0, hpos, hpos1]
    refine lookB_seen us337 us3 zero4 hm ?_
    have hbb3 : ¬ b = b3 := fun e => by subst e; rw [hm] at hb; cases hb
    have hbb3' : ¬ b3 = b := fun e => hbb3 e.symm
    by_cases hin : i ∈ seen
    · have hin' : ((i : Int) ∈ natI seen) = True := eq_true (by rw [natI_mem]; exact hin)
      rw [if_pos hin] at hz
      simp only [go_sem, xQ, ↓reduceIte, xA, xM, xL, xT, xE, xN, h0, h1, h3, h4, List.length_cons, hb, hc0, hin', Nat.add_sub_cancel]
      refine ⟨(k, todo, seen), by simp [fuelOf], hm, ⟨b, off + 1, cs, c, rfl, hb, hbn, hcs', by simp only [List.length_cons] at hle; show off + 1 + todo.length ≤ cs.length; omega⟩, hD, hnd, hsl, fun j hj => htl j (by simp [hj]), by simp only [List.length_cons] at hlt2; show todo.length ≤ 1 + 2 * seen.length; omega, hkR, f, by simp [fuelOf] at hf ⊢; omega, hz⟩
    · have hin' : ((i : Int) ∈ natI seen) = False := eq_false (by rw [natI_mem]; exact hin)
      rw [if_neg hin] at hz
      obtain ⟨s, hs⟩ : ∃ s, p[i]? = some s := ⟨p[i], List.getElem?_eq_getElem hip⟩
      rw [hs] at hz
      simp only at hz
      have hget : R[k]? = some s := by
        have := congrArg (·[0]?) hz
        simpa [List.getElem?_drop] using this
      have hz' : R.drop (k + 1) = reachF p f (if s.leaf then todo else todo ++ [s.k0.toNat, s.k1.toNat]) (seen ++ [i]) := by
        rw [drop_of_get hget] at hz
        exact (List.cons.inj hz).2
      have hk1 : k + 1 ≤ R.length := lt_of_getElem? hget
      have hnd' : (seen ++ [i]).Nodup := by
        rw [List.nodup_append]
        exact ⟨hnd, by simp, fun a ha b hb => by simp at hb; subst hb; exact fun e => hin (e ▸ ha)⟩
      have hsl' : ∀ j ∈ seen ++ [i], j < p.length := fun j hj => by
        rcases List.mem_append.1 hj with h | h
        · exact hsl j h
        · simp at h; subst h; exact hip
      have hpg := pigeon p.length _ hnd' hsl'
      simp only [List.length_append, List.length_singleton] at hpg
      have hnat : natI (seen ++ [i]) = natI seen ++ [(i : Int)] := by simp [natI]
      simp only [go_sem, xQ, ↓reduceIte, xA, xM, xL, xT, xE, xN, h0, h1, h3, h4, List.length_cons, hb, hc0, hin', Nat.add_sub_cancel]
      refine mupB_seen us337 us3 hm (by rw [natI_mem]; exact hin) ?_
      simp only [go_sem, xQ, ↓reduceIte, xA, xM, xL, xT, xE, xN, h0, h1, h3, h4, List.length_cons, hb, hc0, hip, hs, ↓st_part hs]
      intro b6 hb6
      have n63 : ¬ b6 = b3 := (upd_none hb6).1
      have hb6' := (upd_none hb6).2
      have n63' : ¬ b3 = b6 := fun e => n63 e.symm
      have n6b : ¬ b = b6 := fun e => by subst e; rw [hb] at hb6'; cases hb6'
      simp only [go_sem, xQ, ↓reduceIte, xA, xM, xL, xT, xE, xN, h0, h1, h3, h4, List.length_cons, hb, hc0, hip, hs, ↓st_part hs, n63, n63', n6b]
      have hS3 : S k b3 = none := (hS k b3).2 hb3
      have hS6 : S k b6 = none := hD.free hb6'
      have hS60 : S 0 b6 = none := (hS k b6).1 hS6
      refine hy k s _ _ hget (by repeat (first | assumption | refine Drop.upd ?_ (by assumption))) (fun σy hDy hKy => ?_)
      have y3 : σy b3 = some (.map (seenM (natI (seen ++ [i])))) := by
        rw [hKy b3 hb3 (by simp [upd, n63'])]
        simp [upd, n63', hnat]
      have yb : σy b = some (.row cs 1 c) := by
        rw [hKy b hbn (by simp [upd, n6b, hbb3, hb])]
        simp [upd, n6b, hbb3, hb]
      have y6 : σy b6 = some (.row (stC s) 6 1) := by
        rw [hKy b6 hS60 (by simp [upd])]
        simp [upd, stC, slI, int]
      cases hleaf : s.leaf with
      | true =>
        simp only [hleaf, if_true] at hz'
        simp only [stC, hleaf] at y6
        simp only [go_sem, xQ, ↓reduceIte, xA, xM, xL, xT, xE, xN, h0, h1, h3, h4, y6, hleaf]
        exact ⟨(k + 1, todo, seen ++ [i]), by simp [fuelOf]; omega, y3, ⟨b, off + 1, cs, c, rfl, yb, hbn, hcs', by simp only [List.length_cons] at hle; show off + 1 + todo.length ≤ cs.length; omega⟩, hDy, hnd', hsl', fun j hj => htl j (by simp [hj]), by simp only [List.length_cons, List.length_append, List.length_nil] at hlt2 ⊢; omega, hk1, f, by simp [fuelOf] at hf ⊢; omega, hz'⟩
      | false =>
        obtain ⟨v, ka, kb, hv, hvm, ha, hai, hb1, hbi⟩ := hok i s hs hleaf
        simp only [hleaf, Bool.false_eq_true, if_false, ha, hb1, Int.toNat_natCast] at hz'
        simp only [stC, hleaf, ha, hb1] at y6
        simp only [go_sem, xQ, ↓reduceIte, xA, xM, xL, xT, xE, xN, h0, h1, h3, h4, y6, hleaf]
        simp only [List.length_cons] at hlt2 hle
        refine appB_part (appT_sl el46 tk3 by3 el46 (by decide) rfl (by decide)) (off := off + 1) (m := todo.length) (n := 2) (bytes := 8) (cs := cs) rfl yb (by omega) hcs' rfl rfl (by omega) (fun b' off' c' cs' hb' ht' hl' => ?_)
        have nb' : ¬ b3 = b' := by
          rcases hb' with rfl | h
          · exact hbb3'
          · intro e; subst e; rw [y3] at h; cases h
        have hSb : S (k + 1) b = none := (hS _ _).2 hbn
        have hSb' : S (k + 1) b' = none := by
          rcases hb' with rfl | h
          · exact hSb
          · exact hDy.free h
        simp only [go_sem, xQ, ↓reduceIte, xA, xM, xL, xT, xE, xN, h0, h1, h3, h4, y6, hleaf]
        exact ⟨(k + 1, todo ++ [ka, kb], seen ++ [i]), by simp [fuelOf]; omega, by simp only [upd_at, ers_at, nb', hbb3', if_false, y3], ⟨b', off', cs', c', by simp, by simp [upd], (hS _ _).1 hSb', by simpa [natI, ints, int] using ht', by simpa using hl'⟩, (hDy.ersL hSb).upd hSb', hnd', hsl', fun j hj => by
          rcases List.mem_append.1 hj with h | h
          · exact htl j (by simp [h])
          · simp at h; omega, by simp only [List.length_append, List.length_cons, List.length_nil]; omega, hk1, f, by simp [fuelOf] at hf ⊢; omega, hz'⟩
end Go.AL
