import Derived.Test.YtjimmpldofoimaaGreatDoorVa
import Derived.Test.YtjimmpldofoimaaGreatDoorXc
import Derived.Test.YtjimmpldofoimaaGreatDoorXd
import Derived.Lib.ItoaLen
open Go.AL renaming retPost_one → xP, retPost_oneN → xR, ers_at' → xS
set_option linter.unusedVariables false
set_option linter.unusedSimpArgs false
namespace Go.AL
open Go.Proofs
variable {Γ : Glob}
attribute [local irreducible] codeW opsW dopsW
@[reducible] noncomputable def p49z (Γ : Glob) : Par := par Γ [5, 22, 33] [] []
theorem ok49z (Γ : Glob) : FnOk (p49z Γ) 49 43 (Tryz.f49.body.getD .skip) Tryz.f49.results.toList 1 := fnOk (par_mixed _ _ _ _) Tryz.func49 rfl rfl rfl (by kernel_rfl) (Nat.le_of_ble_eq_true rfl) (by kernel_rfl)
theorem casesAt (f : Fm) (hl : Fits f.nodes.length) (hc : ∀ n ∈ f.nodes, NdFit n) (hok : ∀ k n, f.nodes[k]? = some n → NodeOk n k f.vars) (bc bm : Nat) : ∀ (N i : Nat), i < N → i < f.nodes.length → CasesAt Γ f bc bm i
  | 0, _, h, _ => by omega
  | N + 1, i, hi, hil => f147 f bc bm i (f224 f hl hc hok bc bm i (f.nodes[i]) (List.getElem?_eq_getElem hil) fun j hj => casesAt f hl hc hok bc bm N j (by omega) (by omega))
def rootW (f : Fm) : WayT := ((f.nodes.length : Int) - 1, false)
def casesR (f : Fm) : List (List Tm) × Int :=
  if checkE f = 0 then (if badW f.nodes (rootW f) then ([], 30) else if larW f.nodes (rootW f) then ([], 4) else (casW f.nodes (rootW f), 0)) else ([], checkE f)
theorem f49 (hG : Γ 0 = some sortsT) (hG2 : Γ 2 = some [int 0, int 0]) (f : Fm) (hl : Fits f.nodes.length) (hc : ∀ n ∈ f.nodes, NdFit n) : PCalls Tryz.prog Γ 49 [fmA f] (.tup [slC (casesR f).1, int (casesR f).2]) := by
  refine pcalls (ok49z Γ) fun σ => ?_
  simp only [go_sem, xP, xR, xS, Tryz.f49]
  refine callB_use (f47 hG f hl hc) rfl ?_
  simp only [go_sem, xP, xR, xS]
  by_cases h : checkE f = 0
  · obtain ⟨hne, hl200, hv0, hv8, hok⟩ := check_ok h
    have hd := hdown hok
    have hpos : 0 < f.nodes.length := List.length_pos_iff.2 hne
    have hroot : rootW f = (((f.nodes.length - 1 : Nat) : Int), false) := by rw [rootW]; congr 1; omega
    have hw : IntKind.i64.wrap ((f.nodes.length : Int) - 1) = ((f.nodes.length - 1 : Nat) : Int) := by rw [wrap_i64 _ (by omega) (by omega)]; omega
    have hn : f.nodes[f.nodes.length - 1]? = some f.nodes[f.nodes.length - 1] := List.getElem?_eq_getElem (by omega)
    simp only [go_sem, xP, xR, xS, h, hw]
    intro b5 hb5
    simp only [go_sem, xP, xR, xS, h, hw]
    intro bm hbm
    obtain ⟨n5m, hbm⟩ := un hbm
    have n5m' : ¬ b5 = bm := fun e => n5m e.symm
    simp only [go_sem, xP, xR, xS, h, hw, n5m, n5m']
    intro bc hbc
    obtain ⟨ncm, hbc⟩ := un hbc
    obtain ⟨nc5, hbc⟩ := un hbc
    have ncm' : ¬ bm = bc := fun e => ncm e.symm
    have nc5' : ¬ b5 = bc := fun e => nc5 e.symm
    simp only [go_sem, xP, xR, xS, h, hw, n5m, n5m', ncm, ncm', nc5, nc5']
    refine callB_a (f146 f hG2 hl hc hok bc bm f.nodes.length (f.nodes.length - 1) false _ [] false _ _ (by omega) hn (upd_same _ _ _) (by rw [upd_ne _ _ _ _ ncm', upd_same]; rfl) (fun p hp => by cases hp) ?_) rfl
    intro m1 bad1 σ1 hm1 u1 u2 u3 u4 qc qm hF
    rw [← hroot] at u2 u3
    have qc' : σ1 bc = some (.row [int f.vars, slN f.nodes, .v (.map (some bm)), .v (.bool bad1)] 4 1) := qc
    have q5 : σ1 b5 = some (.row [int ((f.nodes.length - 1 : Nat) : Int), .v (.bool false)] 2 1) := hF b5 _ nc5' n5m' (by rw [upd_ne _ _ _ _ nc5', upd_ne _ _ _ _ n5m', upd_same]; rfl)
    have hF0 : ∀ x y, σ x = some y → σ1 x = some y := fun x y hx => hF x y (fun e => by rw [e, hbc] at hx; cases hx) (fun e => by rw [e, hbm] at hx; cases hx) (by
      rw [upd_ne _ _ _ _ (fun e => by rw [e, hbc] at hx; cases hx), upd_ne _ _ _ _ (fun e => by rw [e, hbm] at hx; cases hx), upd_ne _ _ _ _ (fun e => by rw [e, hb5] at hx; cases hx)]; exact hx)
    cases hb : badW f.nodes (rootW f) with
    | true =>
      have hr : casesR f = ([], 30) := by rw [casesR, if_pos h, hb]; rfl
      have e1 := u2 hb
      subst e1
      rw [hr]
      simp only [go_sem, xP, xR, xS, qc']
      exact ⟨.tup (.cons .nil (.cons (.refl _) .nil)), fun x => by
        cases hx : σ x with
        | none => exact .inl rfl
        | some y => exact .inr (hF0 x y hx).symm⟩
    | false =>
      have e1 : bad1 = false := by
        cases hb1 : bad1 with
        | false => rfl
        | true => rcases u3 hb1 with h | h
                  · cases h
                  · rw [hb] at h; cases h
      subst e1
      simp only [go_sem, xP, xR, xS, qc']
      intro bm2 hbm2
      have n52 : ¬ b5 = bm2 := nn hbm2 q5
      simp only [go_sem, xP, xR, xS, qc', n52]
      intro bc2 hbc2
      obtain ⟨ncm2, hbc2⟩ := un hbc2
      have ncm2' : ¬ bm2 = bc2 := fun e => ncm2 e.symm
      have n5c : ¬ b5 = bc2 := nn hbc2 q5
      simp only [go_sem, xP, xR, xS, qc', n52, n5c, q5]
      have hb2 := hb
      rw [hroot] at hb2
      refine callB_a (casesAt f hl hc hok bc2 bm2 f.nodes.length (f.nodes.length - 1) (by omega) (by omega) false [] false _ _ hb2 (upd_same _ _ _) (by rw [upd_ne _ _ _ _ ncm2', upd_same]; rfl) (fun p hp => by cases hp) ?_) rfl
      intro m2 lar σ2 hm2 v1 v2 v3 v4 pc pm pF
      rw [← hroot] at v2 v3
      have pc' : σ2 bc2 = some (.row [int f.vars, slN f.nodes, .v (.map (some bm2)), .v (.bool lar)] 4 1) := pc
      have hD : Drop σ2 σ := fun x => by
        cases hx : σ x with
        | none => exact .inl rfl
        | some y =>
          have hx1 := hF0 x y hx
          exact .inr (pF x y (fun e => by rw [e, hbc2] at hx1; cases hx1) (fun e => by rw [e, hbm2] at hx1; cases hx1) (by
            rw [upd_ne _ _ _ _ (fun e => by rw [e, hbc2] at hx1; cases hx1), upd_ne _ _ _ _ (fun e => by rw [e, hbm2] at hx1; cases hx1)]; exact hx1)).symm
      cases hlar : larW f.nodes (rootW f) with
      | true =>
        have hr : casesR f = ([], 4) := by rw [casesR, if_pos h, hb, hlar]; rfl
        have e1 := v2 hlar
        subst e1
        rw [hr]
        simp only [go_sem, xP, xR, xS, pc']
        exact ⟨.tup (.cons .nil (.cons (.refl _) .nil)), hD⟩
      | false =>
        have hr : casesR f = (casW f.nodes (rootW f), 0) := by rw [casesR, if_pos h, hb, hlar]; rfl
        have e1 : lar = false := by
          cases hb1 : lar with
          | false => rfl
          | true => rcases v3 hb1 with h | h
                    · cases h
                    · rw [hlar] at h; cases h
        subst e1
        rw [hr]
        obtain ⟨cl1, cl2, _⟩ := (cnt_cas hd hok f.nodes.length (f.nodes.length - 1) false _ (by omega) hn).2 hb2
        have hfit := cas_fit hd hc f.nodes.length (f.nodes.length - 1) false _ (by omega) hn
        rw [← hroot] at cl1 cl2 hfit
        simp only [go_sem, xP, xR, xS, pc']
        rw [← hroot]
        refine callB_use (f148 (casW f.nodes (rootW f)) (by omega) _ (fun x => x) (fun x hx => dcall_of (f149 x (by have := maxL_mem hx; omega) (fun t ht => hfit x hx t ht)) rfl)) rfl ?_
        simp only [go_sem, xP, xR, xS]
        exact ⟨by rw [List.map_id']; exact .refl _, hD⟩
  · have hr : casesR f = ([], checkE f) := by rw [casesR, if_neg h]
    rw [hr]
    simp only [go_sem, xP, xR, xS, h]
    exact ⟨.tup (.cons .nil (.cons (.refl _) .nil)), Drop.refl _⟩
def lineF (w : ByteArray) (l : List Int) : ByteArray := joinP (w :: l.map itoaP) bSp ++ bNl
def I64 (n : Int) : Prop := -9223372036854775808 ≤ n ∧ n ≤ 9223372036854775807
theorem itoa_len {n : Int} (h : I64 n) : (itoaP n).data.toList.length ≤ 21 := by
  have := Lib.itoa_length_le n h.1 h.2
  simpa [itoaP] using this
theorem within_zero {n lo hi : Int} (h : withinE n lo hi = 0) : lo ≤ n ∧ n ≤ hi := by
  unfold withinE at h
  split at h
  · cases h
  · omega
theorem Bld.closed {σ0 σs : Sig} {b : Nat} {v : Value} {l : List UInt8} (h0 : ∀ x, σs x = none → σ0 x = none) : Closed noD σs fun σ' => Bld σ0 σ' b v l := fun σ' x y hx h => by
  obtain ⟨h1, ⟨p, h2, hp⟩, h3, h4⟩ := h
  have hxn : ∀ cs el, σ' x ≠ some (.var cs el) := fun cs el e => by
    rcases hx with hx | ⟨_, z, hx, hz⟩ | ⟨z, hx, hz⟩
    · rw [hx] at e; cases e
    · rw [hx] at e; cases e; exact hz
    · exact hz
  have hx0 : σ0 x = none := by
    rcases hx with hx | ⟨hx, _⟩ | ⟨z, hx, hz⟩
    · exact h4.free hx
    · exact h0 x hx
    · exact hz.elim
  refine ⟨h1, ⟨p, by rw [upd_ne _ _ _ _ (fun e => hxn _ _ (by rw [← e]; exact h2))]; exact h2, hp⟩, h3.keep fun g hg => upd_ne _ _ _ _ (fun e => ?_), h4.upd hx0⟩
  subst e
  rcases h3 with ⟨rfl, _⟩ | ⟨g', cap, rest, rfl, k1, k2, k3, k4⟩
  · cases hg
  · cases hg; exact hxn _ _ k3
theorem Bld.ne {σ0 σ : Sig} {b : Nat} {v : Value} {l : List UInt8} (h : Bld σ0 σ b v l) {x : Nat} {y : Blk} (hx : σ x = some y) (hy : ∀ cs el, y ≠ .var cs el) : x ≠ b ∧ some x ≠ blkV v := by
  obtain ⟨h1, ⟨p, h2, hp⟩, h3, h4⟩ := h
  refine ⟨fun e => ?_, fun e => h3.ne hx (fun cs => hy cs 5) e.symm⟩
  rw [e, h2] at hx
  cases hx
  exact hy _ _ rfl
theorem Bld.upd {σ0 σ : Sig} {b : Nat} {v : Value} {l : List UInt8} (h : Bld σ0 σ b v l) {x : Nat} (hx : x ≠ b) (hv : some x ≠ blkV v) (h0 : σ0 x = none) (y : Option Blk) : Bld σ0 (upd σ x y) b v l := by
  obtain ⟨h1, ⟨p, h2, hp⟩, h3, h4⟩ := h
  exact ⟨h1, ⟨p, by rw [upd_ne _ _ _ _ (Ne.symm hx)]; exact h2, hp⟩, h3.keep fun g hg => upd_ne _ _ _ _ (fun e => hv (by rw [hg, e])), h4.upd h0⟩
theorem Bld.fresh {σ0 σ : Sig} {b : Nat} {v : Value} {l : List UInt8} (h : Bld σ0 σ b v l) {x : Nat} (hx : σ x = none) (y : Option Blk) : Bld σ0 (AL.upd σ x y) b v l := by
  obtain ⟨p, h2, hp⟩ := h.var
  refine h.upd (fun e => by rw [e, h2] at hx; cases hx) (fun e => ?_) (h.drop.free hx) y
  rcases h.buf with ⟨rfl, _⟩ | ⟨g', cap, rest, rfl, k1, k2, k3, k4⟩
  · cases e
  · cases e; rw [k3] at hx; cases hx
theorem Bld.of_drop {σ0 σ σ' : Sig} {b : Nat} {v : Value} {l : List UInt8} (h : Bld σ0 σ b v l) (hd : Drop σ' σ) : Bld σ0 σ' b v l := by
  have key : ∀ x y, σ x = some y → σ' x = some y := fun x y hx => by
    rcases hd x with h | h
    · rw [hx] at h; cases h
    · rw [← h]; exact hx
  obtain ⟨h1, ⟨p, h2, hp⟩, h3, h4⟩ := h
  refine ⟨h1, ⟨p, key _ _ h2, hp⟩, ?_, hd.trans h4⟩
  rcases h3 with h | ⟨g', cap, rest, rfl, k1, k2, k3, k4⟩
  · exact .inl h
  · exact .inr ⟨g', cap, rest, rfl, k1, k2, key _ _ k3, k4⟩
theorem frzB_val {x : Bool} {l : List Bool} {ρ : Env} {σ : Sig} {K : Env → Sig → Prop} (t : Nat) {r : AV} {σ' : Sig} (hD : Drop σ σ') (hF : Fz σ σ' (ρ t) r) (hK : K (upd ρ t r) σ') : frzB (x :: l) ρ σ K :=
  ⟨_, σ', hD, fun i => by
    by_cases hi : i = t
    · subst hi; rw [upd_same]; exact hF
    · rw [upd_ne _ _ _ _ hi]; exact .refl _, hK⟩
def cB : List (List Tm) := [[⟨[-1, 1], -1⟩], [⟨[0, 1], -3⟩, ⟨[0, -1], 3⟩]]
end Go.AL
