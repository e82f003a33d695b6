/- Cases: the walk that counts. -/
import Derived.Test.YtjimmpldofoimaaGreatDoorXd
open Nat renaming reduceEqDiff → xQ, reduceAdd → xA, reduceMul → xM, reduceLeDiff → xL
open Int renaming reduceLT → xT, reduceLE → xE, reduceToNat → xN
open Go.AL renaming retPost_one → xP, retPost_oneN → xR, ers_at' → xS
set_option linter.unusedVariables false
set_option linter.unusedSimpArgs false
namespace Go.AL
open Go.Proofs
variable {Γ : Glob}
attribute [local irreducible] codeW opsW dopsW
/-- What the kids of a node count. -/
def subC (l : List Nd) (n : Nd) (b : Bool) : List (Int × Int) := n.kids.map fun x => cntW l (x, b != decide (n.kind = 2))
theorem subC_get {l : List Nd} {n : Nd} {b : Bool} {k : Nat} {x : Int} (h : n.kids[k]? = some x) : (subC l n b)[k]? = some (cntW l (x, b != decide (n.kind = 2))) := by simp [subC, h]
theorem subC_len {l : List Nd} {n : Nd} {b : Bool} : (subC l n b).length = n.kids.length := by simp [subC]
theorem subC_bd {l : List Nd} {n : Nd} {b : Bool} : ∀ c ∈ subC l n b, bdC c := fun c hc => by
  obtain ⟨x, _, rfl⟩ := List.mem_map.1 hc
  exact cntW_bd _ _
theorem waysX_get {n : Nd} {b : Bool} {k : Nat} {x : AV} (h : (waysX n b)[k]? = some x) : ∃ c, n.kids[k]? = some c ∧ x = wayA c (b != decide (n.kind = 2)) := by
  rw [waysX, List.getElem?_map] at h
  cases hn : n.kids[k]? with
  | none => rw [hn] at h; cases h
  | some c => rw [hn] at h; exact ⟨c, rfl, (Option.some.inj h).symm⟩
theorem waysX_len {n : Nd} {b : Bool} : (waysX n b).length = n.kids.length := by simp [waysX]
def anyZ (l : List (Int × Int)) : Bool := l.any fun n => decide (n = (0, 0))
theorem anyZ_snoc (l : List (Int × Int)) (x : Int × Int) : anyZ (l ++ [x]) = (anyZ l || (decide (x.1 = 0) && decide (x.2 = 0))) := by
  obtain ⟨a, b⟩ := x
  rw [anyZ, List.any_append, anyZ]
  simp
theorem mul65 {a b : Int} (h1 : 0 ≤ a) (h2 : a ≤ 65) (h3 : 0 ≤ b) (h4 : b ≤ 65) : 0 ≤ a * b ∧ a * b ≤ 4225 := ⟨Int.mul_nonneg h1 h3, by
  have := Int.mul_le_mul h2 h4 h3 (by decide)
  omega⟩
theorem hdown {f : Fm} (hok : ∀ k n, f.nodes[k]? = some n → NodeOk n k f.vars) : KidsDown f.nodes := fun k n hn x hx => by
  have h := hok k n hn
  by_cases h1 : n.kind ≤ 1
  · rw [(h.term h1).2.2] at hx
    cases hx
  · exact (h.form (by omega)).2.2.2 x hx
set_option maxHeartbeats 4000000 in
set_option maxRecDepth 20000 in
theorem f146 (f : Fm) (hG2 : Γ 2 = some [int 0, int 0]) (hl : Fits f.nodes.length) (hc : ∀ n ∈ f.nodes, NdFit n) (hok : ∀ k n, f.nodes[k]? = some n → NodeOk n k f.vars) (bc bm : Nat) : ∀ (N i : Nat) (b : Bool) (n : Nd) (m : List (WayT × AV)) (bad : Bool) (σ : Sig) (K : AV → Sig → Prop), i < N → f.nodes[i]? = some n →
    σ bc = some (cntRow f bm bad) → σ bm = some (.map (mapW m)) → MemoC f.nodes m bad →
    (∀ m' bad' σ', MemoC f.nodes m' bad' → (bad = true → bad' = true) → (badW f.nodes (i, b) = true → bad' = true) → (bad' = true → bad = true ∨ badW f.nodes (i, b) = true) → (∀ p ∈ m', p ∈ m ∨ p.1.1 ≤ (i : Int)) → σ' bc = some (cntRow f bm bad') → σ' bm = some (.map (mapW m')) →
      Frm bc bm σ σ' → K (cntA (cntW f.nodes (i, b))) σ') →
    ACalls Tryz.prog Γ 146 [.v (.pointer (some ⟨bc, 0, none⟩)), wayA i b] σ K := by
  have hd := hdown hok
  intro N
  induction N with
  | zero => intro i b n m bad σ K hi; omega
  | succ N ih =>
    intro i b n m bad σ K hi hn hbc hbm hm hK
    have hok1 := hok i n hn
    have hkf := (hc n (mem_of_get hn)).2
    have kbc : ¬ bm = bc := fun e => by rw [e, hbc] at hbm; cases hbm
    have kbc' : ¬ bc = bm := fun e => kbc e.symm
    refine acalls (ok146z Γ) ?_
    simp only [go_sem, xQ, ↓reduceIte, xA, xM, xL, xT, xE, xN, xP, xR, xS, Tryz.f146]
    intro b4 hb4
    have m4 : ¬ bc = b4 := nn hb4 hbc
    have m4' : ¬ b4 = bc := fun e => m4 e.symm
    have k4 : ¬ bm = b4 := nn hb4 hbm
    have k4' : ¬ b4 = bm := fun e => k4 e.symm
    have hbc' : σ bc = some (.row [int f.vars, slN f.nodes, .v (.map (some bm)), .v (.bool bad)] 4 1) := hbc
    simp only [go_sem, xQ, ↓reduceIte, xA, xM, xL, xT, xE, xN, xP, xR, xS, hbc', m4, m4', k4]
    cases hg : getW m (i, b) with
    | some x =>
      obtain ⟨hx, hxb⟩ := hm _ (getW_mem hg)
      dsimp only at hx
      subst hx
      refine rlookB_way (a := (i, b)) us231 way229 (fun w σ => zero234 w σ) (l := m) (by rw [upd_ne _ _ _ _ k4]; exact hbm) ?_
      rw [hg]
      dsimp only
      simp only [go_sem, xQ, ↓reduceIte, xA, xM, xL, xT, xE, xN, xP, xR, xS, hbc', m4, m4', k4, cntA]
      intro b5 hb5
      obtain ⟨n54, hb5⟩ := un hb5
      have n54' : ¬ b4 = b5 := fun e => n54 e.symm
      simp only [go_sem, xQ, ↓reduceIte, xA, xM, xL, xT, xE, xN, xP, xR, xS, hbc', m4, m4', k4, cntA, n54, n54']
      refine hK m bad _ hm (fun h => h) hxb (fun h => .inl h) (fun p hp => .inl hp) ?_ ?_ ((Frm.refl.new hb4 _).new hb5 _ |>.new hb4 _)
      · rw [upd_ne _ _ _ _ m4, upd_ne _ _ _ _ (nn hb5 hbc), upd_ne _ _ _ _ m4]; exact hbc
      · rw [upd_ne _ _ _ _ k4, upd_ne _ _ _ _ (nn hb5 hbm), upd_ne _ _ _ _ k4]; exact hbm
    | none =>
      refine rlookB_way (a := (i, b)) us231 way229 (fun w σ => zero234 w σ) (l := m) (by rw [upd_ne _ _ _ _ k4]; exact hbm) ?_
      rw [hg]
      dsimp only
      simp only [go_sem, xQ, ↓reduceIte, xA, xM, xL, xT, xE, xN, xP, xR, xS, hbc', m4, m4', k4, cntA]
      intro b5 hb5
      obtain ⟨n54, hb5⟩ := un hb5
      have n54' : ¬ b4 = b5 := fun e => n54 e.symm
      have m5 : ¬ bc = b5 := nn hb5 hbc
      have m5' : ¬ b5 = bc := fun e => m5 e.symm
      have k5 : ¬ bm = b5 := nn hb5 hbm
      have k5' : ¬ b5 = bm := fun e => k5 e.symm
      simp only [go_sem, xQ, ↓reduceIte, xA, xM, xL, xT, xE, xN, xP, xR, xS, hbc', m4, m4', k4, cntA, n54, n54', m5, m5', k5]
      intro b7 hb7
      obtain ⟨n75, hb7⟩ := un hb7
      obtain ⟨n74, hb7⟩ := un hb7
      have n75' : ¬ b5 = b7 := fun e => n75 e.symm
      have n74' : ¬ b4 = b7 := fun e => n74 e.symm
      have m7 : ¬ bc = b7 := nn hb7 hbc
      have m7' : ¬ b7 = bc := fun e => m7 e.symm
      have k7 : ¬ bm = b7 := nn hb7 hbm
      have k7' : ¬ b7 = bm := fun e => k7 e.symm
      simp only [go_sem, xQ, ↓reduceIte, xA, xM, xL, xT, xE, xN, xP, xR, xS, hbc', m4, m4', k4, cntA, n54, n54', m5, m5', k5, n75, n75', n74, n74', m7, m7', k7]
      refine callB_use (f222 f i b n hn) rfl ?_
      simp only [go_sem, xQ, ↓reduceIte, xA, xM, xL, xT, xE, xN, xP, xR, xS, hbc', m4, m4', k4, cntA, n54, n54', m5, m5', k5, n75, n75', n74, n74', m7, m7', k7]
      have e10 : ((1 : Int) = 0) = False := eq_false (by decide)
      have e20 : ((2 : Int) = 0) = False := eq_false (by decide)
      have e21 : ((2 : Int) = 1) = False := eq_false (by decide)
      have e30 : ((3 : Int) = 0) = False := eq_false (by decide)
      have e31 : ((3 : Int) = 1) = False := eq_false (by decide)
      have e32 : ((3 : Int) = 2) = False := eq_false (by decide)
      have e40 : ((4 : Int) = 0) = False := eq_false (by decide)
      have e41 : ((4 : Int) = 1) = False := eq_false (by decide)
      have e42 : ((4 : Int) = 2) = False := eq_false (by decide)
      have e43 : ((4 : Int) = 3) = False := eq_false (by decide)
      have hkw : kindW n b = 0 ∨ kindW n b = 1 ∨ kindW n b = 2 ∨ kindW n b = 3 ∨ kindW n b = 4 := by
        have := hok1.lo
        have := hok1.hi
        unfold kindW
        split <;> omega
      rcases hkw with hk | hk | hk | hk | hk
      · have hkids : n.kids = [] := (hok1.term (by unfold kindW at hk; split at hk <;> omega)).2.2
        have hMM : Mid f.nodes i n b m bad n.kids.length m bad := by rw [hkids]; exact Mid.zero hm
        have hO : outC (kindW n b) b (n.kids.map fun x => cntW f.nodes (x, b != decide (n.kind = 2))) = (1, 1) := by rw [hk]; rfl
        simp only [go_sem, xQ, ↓reduceIte, xA, xM, xL, xT, xE, xN, xP, xR, xS, hbc', m4, m4', k4, cntA, n54, n54', m5, m5', k5, n75, n75', n74, n74', m7, m7', k7, hk]
        cases bad with
        | true =>
          simp only [go_sem, xQ, ↓reduceIte, xA, xM, xL, xT, xE, xN, xP, xR, xS, hbc', m4, m4', k4, cntA, n54, n54', m5, m5', k5, n75, n75', n74, n74', m7, m7', k7, hk]
          refine mupB_way (a := (i, _)) us231 way229 (l := m) (by simp only [upd, m4, m4', k4, n54, n54', m5, m5', k5, n75, n75', n74, n74', m7, m7', k7, kbc, kbc', k4', k7', if_false, if_true, ↓reduceIte]; exact hbm) hg ?_
          simp only [go_sem, xQ, ↓reduceIte, xA, xM, xL, xT, xE, xN, xP, xR, xS, m4, m4', k4, n54, n54', m5, m5', k5, n75, n75', n74, n74', m7, m7', k7, kbc, kbc', k4', k7', hbc', cntA]
          have hK' := fun bad2 (h2 : bad2 = (true || badC (((1 : Int), (1 : Int)).1, min ((1 : Int), (1 : Int)).2 33))) => let ⟨e, h1, h3, h4, h5⟩ := fin146 hd hn hMM.memo hO hMM.up (fun x hx => hMM.kids x (by rw [List.take_length]; exact hx)) (by have := hMM.why; rw [List.take_length] at this; exact this) h2; (fun σ' h6 h7 h8 h9 => (e ▸ hK _ bad2 σ' h1 h3 h4 h5 h6 h7 h8 h9 : K (cntA (((1 : Int), (1 : Int)).1, min ((1 : Int), (1 : Int)).2 33)) σ'))
          refine hK' true (by first | decide | simp [badC]) _ (fun p hp => ?_) ?_ ?_ ?_
          · rcases List.mem_append.1 hp with hp | hp
            · rcases hMM.new p hp with hp | hp
              · exact .inl hp
              · exact .inr (Int.le_of_lt hp)
            · rw [List.mem_singleton] at hp
              subst hp
              exact .inr (Int.le_refl _)
          · simp only [xS, upd, m4, m4', k4, n54, n54', m5, m5', k5, n75, n75', n74, n74', m7, m7', k7, kbc, kbc', k4', k7', if_false, if_true, ↓reduceIte]; rfl
          · simp only [xS, upd, m4, m4', k4, n54, n54', m5, m5', k5, n75, n75', n74, n74', m7, m7', k7, kbc, kbc', k4', k7', if_false, if_true, ↓reduceIte]; rfl
          · skip
            repeat (first | exact Frm.refl | exact hF | refine Frm.new ?_ hb4 _ | refine Frm.new ?_ hb5 _ | refine Frm.new ?_ hb7 _ | refine Frm.new ?_ hr0 _ | refine Frm.own ?_ (.inl rfl) _ | refine Frm.own ?_ (.inr rfl) _)
        | false =>
          simp only [go_sem, xQ, ↓reduceIte, xA, xM, xL, xT, xE, xN, xP, xR, xS, hbc', m4, m4', k4, cntA, n54, n54', m5, m5', k5, n75, n75', n74, n74', m7, m7', k7, hk]
          refine mupB_way (a := (i, _)) us231 way229 (l := m) (by simp only [upd, m4, m4', k4, n54, n54', m5, m5', k5, n75, n75', n74, n74', m7, m7', k7, kbc, kbc', k4', k7', if_false, if_true, ↓reduceIte]; exact hbm) hg ?_
          simp only [go_sem, xQ, ↓reduceIte, xA, xM, xL, xT, xE, xN, xP, xR, xS, m4, m4', k4, n54, n54', m5, m5', k5, n75, n75', n74, n74', m7, m7', k7, kbc, kbc', k4', k7', hbc', cntA]
          have hK' := fun bad2 (h2 : bad2 = (false || badC (((1 : Int), (1 : Int)).1, min ((1 : Int), (1 : Int)).2 33))) => let ⟨e, h1, h3, h4, h5⟩ := fin146 hd hn hMM.memo hO hMM.up (fun x hx => hMM.kids x (by rw [List.take_length]; exact hx)) (by have := hMM.why; rw [List.take_length] at this; exact this) h2; (fun σ' h6 h7 h8 h9 => (e ▸ hK _ bad2 σ' h1 h3 h4 h5 h6 h7 h8 h9 : K (cntA (((1 : Int), (1 : Int)).1, min ((1 : Int), (1 : Int)).2 33)) σ'))
          refine hK' false (by first | decide | simp [badC]) _ (fun p hp => ?_) ?_ ?_ ?_
          · rcases List.mem_append.1 hp with hp | hp
            · rcases hMM.new p hp with hp | hp
              · exact .inl hp
              · exact .inr (Int.le_of_lt hp)
            · rw [List.mem_singleton] at hp
              subst hp
              exact .inr (Int.le_refl _)
          · simp only [xS, upd, m4, m4', k4, n54, n54', m5, m5', k5, n75, n75', n74, n74', m7, m7', k7, kbc, kbc', k4', k7', if_false, if_true, ↓reduceIte]; rfl
          · simp only [xS, upd, m4, m4', k4, n54, n54', m5, m5', k5, n75, n75', n74, n74', m7, m7', k7, kbc, kbc', k4', k7', if_false, if_true, ↓reduceIte]; rfl
          · skip
            repeat (first | exact Frm.refl | exact hF | refine Frm.new ?_ hb4 _ | refine Frm.new ?_ hb5 _ | refine Frm.new ?_ hb7 _ | refine Frm.new ?_ hr0 _ | refine Frm.own ?_ (.inl rfl) _ | refine Frm.own ?_ (.inr rfl) _)
      · have hkids : n.kids = [] := (hok1.term (by unfold kindW at hk; split at hk <;> omega)).2.2
        have hMM : Mid f.nodes i n b m bad n.kids.length m bad := by rw [hkids]; exact Mid.zero hm
        cases b with
        | true =>
          have hO : outC (kindW n true) true (n.kids.map fun x => cntW f.nodes (x, true != decide (n.kind = 2))) = (2, 1) := by rw [hk]; rfl
          simp only [go_sem, xQ, ↓reduceIte, xA, xM, xL, xT, xE, xN, xP, xR, xS, hbc', m4, m4', k4, cntA, n54, n54', m5, m5', k5, n75, n75', n74, n74', m7, m7', k7, hk, e10]
          cases bad with
          | true =>
            simp only [go_sem, xQ, ↓reduceIte, xA, xM, xL, xT, xE, xN, xP, xR, xS, hbc', m4, m4', k4, cntA, n54, n54', m5, m5', k5, n75, n75', n74, n74', m7, m7', k7, hk]
            refine mupB_way (a := (i, _)) us231 way229 (l := m) (by simp only [upd, m4, m4', k4, n54, n54', m5, m5', k5, n75, n75', n74, n74', m7, m7', k7, kbc, kbc', k4', k7', if_false, if_true, ↓reduceIte]; exact hbm) hg ?_
            simp only [go_sem, xQ, ↓reduceIte, xA, xM, xL, xT, xE, xN, xP, xR, xS, m4, m4', k4, n54, n54', m5, m5', k5, n75, n75', n74, n74', m7, m7', k7, kbc, kbc', k4', k7', hbc', cntA]
            have hK' := fun bad2 (h2 : bad2 = (true || badC (((2 : Int), (1 : Int)).1, min ((2 : Int), (1 : Int)).2 33))) => let ⟨e, h1, h3, h4, h5⟩ := fin146 hd hn hMM.memo hO hMM.up (fun x hx => hMM.kids x (by rw [List.take_length]; exact hx)) (by have := hMM.why; rw [List.take_length] at this; exact this) h2; (fun σ' h6 h7 h8 h9 => (e ▸ hK _ bad2 σ' h1 h3 h4 h5 h6 h7 h8 h9 : K (cntA (((2 : Int), (1 : Int)).1, min ((2 : Int), (1 : Int)).2 33)) σ'))
            refine hK' true (by first | decide | simp [badC]) _ (fun p hp => ?_) ?_ ?_ ?_
            · rcases List.mem_append.1 hp with hp | hp
              · rcases hMM.new p hp with hp | hp
                · exact .inl hp
                · exact .inr (Int.le_of_lt hp)
              · rw [List.mem_singleton] at hp
                subst hp
                exact .inr (Int.le_refl _)
            · simp only [xS, upd, m4, m4', k4, n54, n54', m5, m5', k5, n75, n75', n74, n74', m7, m7', k7, kbc, kbc', k4', k7', if_false, if_true, ↓reduceIte]; rfl
            · simp only [xS, upd, m4, m4', k4, n54, n54', m5, m5', k5, n75, n75', n74, n74', m7, m7', k7, kbc, kbc', k4', k7', if_false, if_true, ↓reduceIte]; rfl
            · skip
              repeat (first | exact Frm.refl | exact hF | refine Frm.new ?_ hb4 _ | refine Frm.new ?_ hb5 _ | refine Frm.new ?_ hb7 _ | refine Frm.new ?_ hr0 _ | refine Frm.own ?_ (.inl rfl) _ | refine Frm.own ?_ (.inr rfl) _)
          | false =>
            simp only [go_sem, xQ, ↓reduceIte, xA, xM, xL, xT, xE, xN, xP, xR, xS, hbc', m4, m4', k4, cntA, n54, n54', m5, m5', k5, n75, n75', n74, n74', m7, m7', k7, hk]
            refine mupB_way (a := (i, _)) us231 way229 (l := m) (by simp only [upd, m4, m4', k4, n54, n54', m5, m5', k5, n75, n75', n74, n74', m7, m7', k7, kbc, kbc', k4', k7', if_false, if_true, ↓reduceIte]; exact hbm) hg ?_
            simp only [go_sem, xQ, ↓reduceIte, xA, xM, xL, xT, xE, xN, xP, xR, xS, m4, m4', k4, n54, n54', m5, m5', k5, n75, n75', n74, n74', m7, m7', k7, kbc, kbc', k4', k7', hbc', cntA]
            have hK' := fun bad2 (h2 : bad2 = (false || badC (((2 : Int), (1 : Int)).1, min ((2 : Int), (1 : Int)).2 33))) => let ⟨e, h1, h3, h4, h5⟩ := fin146 hd hn hMM.memo hO hMM.up (fun x hx => hMM.kids x (by rw [List.take_length]; exact hx)) (by have := hMM.why; rw [List.take_length] at this; exact this) h2; (fun σ' h6 h7 h8 h9 => (e ▸ hK _ bad2 σ' h1 h3 h4 h5 h6 h7 h8 h9 : K (cntA (((2 : Int), (1 : Int)).1, min ((2 : Int), (1 : Int)).2 33)) σ'))
            refine hK' false (by first | decide | simp [badC]) _ (fun p hp => ?_) ?_ ?_ ?_
            · rcases List.mem_append.1 hp with hp | hp
              · rcases hMM.new p hp with hp | hp
                · exact .inl hp
                · exact .inr (Int.le_of_lt hp)
              · rw [List.mem_singleton] at hp
                subst hp
                exact .inr (Int.le_refl _)
            · simp only [xS, upd, m4, m4', k4, n54, n54', m5, m5', k5, n75, n75', n74, n74', m7, m7', k7, kbc, kbc', k4', k7', if_false, if_true, ↓reduceIte]; rfl
            · simp only [xS, upd, m4, m4', k4, n54, n54', m5, m5', k5, n75, n75', n74, n74', m7, m7', k7, kbc, kbc', k4', k7', if_false, if_true, ↓reduceIte]; rfl
            · skip
              repeat (first | exact Frm.refl | exact hF | refine Frm.new ?_ hb4 _ | refine Frm.new ?_ hb5 _ | refine Frm.new ?_ hb7 _ | refine Frm.new ?_ hr0 _ | refine Frm.own ?_ (.inl rfl) _ | refine Frm.own ?_ (.inr rfl) _)
        | false =>
          have hO : outC (kindW n false) false (n.kids.map fun x => cntW f.nodes (x, false != decide (n.kind = 2))) = (1, 2) := by rw [hk]; rfl
          simp only [go_sem, xQ, ↓reduceIte, xA, xM, xL, xT, xE, xN, xP, xR, xS, hbc', m4, m4', k4, cntA, n54, n54', m5, m5', k5, n75, n75', n74, n74', m7, m7', k7, hk, e10]
          cases bad with
          | true =>
            simp only [go_sem, xQ, ↓reduceIte, xA, xM, xL, xT, xE, xN, xP, xR, xS, hbc', m4, m4', k4, cntA, n54, n54', m5, m5', k5, n75, n75', n74, n74', m7, m7', k7, hk]
            refine mupB_way (a := (i, _)) us231 way229 (l := m) (by simp only [upd, m4, m4', k4, n54, n54', m5, m5', k5, n75, n75', n74, n74', m7, m7', k7, kbc, kbc', k4', k7', if_false, if_true, ↓reduceIte]; exact hbm) hg ?_
            simp only [go_sem, xQ, ↓reduceIte, xA, xM, xL, xT, xE, xN, xP, xR, xS, m4, m4', k4, n54, n54', m5, m5', k5, n75, n75', n74, n74', m7, m7', k7, kbc, kbc', k4', k7', hbc', cntA]
            have hK' := fun bad2 (h2 : bad2 = (true || badC (((1 : Int), (2 : Int)).1, min ((1 : Int), (2 : Int)).2 33))) => let ⟨e, h1, h3, h4, h5⟩ := fin146 hd hn hMM.memo hO hMM.up (fun x hx => hMM.kids x (by rw [List.take_length]; exact hx)) (by have := hMM.why; rw [List.take_length] at this; exact this) h2; (fun σ' h6 h7 h8 h9 => (e ▸ hK _ bad2 σ' h1 h3 h4 h5 h6 h7 h8 h9 : K (cntA (((1 : Int), (2 : Int)).1, min ((1 : Int), (2 : Int)).2 33)) σ'))
            refine hK' true (by first | decide | simp [badC]) _ (fun p hp => ?_) ?_ ?_ ?_
            · rcases List.mem_append.1 hp with hp | hp
              · rcases hMM.new p hp with hp | hp
                · exact .inl hp
                · exact .inr (Int.le_of_lt hp)
              · rw [List.mem_singleton] at hp
                subst hp
                exact .inr (Int.le_refl _)
            · simp only [xS, upd, m4, m4', k4, n54, n54', m5, m5', k5, n75, n75', n74, n74', m7, m7', k7, kbc, kbc', k4', k7', if_false, if_true, ↓reduceIte]; rfl
            · simp only [xS, upd, m4, m4', k4, n54, n54', m5, m5', k5, n75, n75', n74, n74', m7, m7', k7, kbc, kbc', k4', k7', if_false, if_true, ↓reduceIte]; rfl
            · skip
              repeat (first | exact Frm.refl | exact hF | refine Frm.new ?_ hb4 _ | refine Frm.new ?_ hb5 _ | refine Frm.new ?_ hb7 _ | refine Frm.new ?_ hr0 _ | refine Frm.own ?_ (.inl rfl) _ | refine Frm.own ?_ (.inr rfl) _)
          | false =>
            simp only [go_sem, xQ, ↓reduceIte, xA, xM, xL, xT, xE, xN, xP, xR, xS, hbc', m4, m4', k4, cntA, n54, n54', m5, m5', k5, n75, n75', n74, n74', m7, m7', k7, hk]
            refine mupB_way (a := (i, _)) us231 way229 (l := m) (by simp only [upd, m4, m4', k4, n54, n54', m5, m5', k5, n75, n75', n74, n74', m7, m7', k7, kbc, kbc', k4', k7', if_false, if_true, ↓reduceIte]; exact hbm) hg ?_
            simp only [go_sem, xQ, ↓reduceIte, xA, xM, xL, xT, xE, xN, xP, xR, xS, m4, m4', k4, n54, n54', m5, m5', k5, n75, n75', n74, n74', m7, m7', k7, kbc, kbc', k4', k7', hbc', cntA]
            have hK' := fun bad2 (h2 : bad2 = (false || badC (((1 : Int), (2 : Int)).1, min ((1 : Int), (2 : Int)).2 33))) => let ⟨e, h1, h3, h4, h5⟩ := fin146 hd hn hMM.memo hO hMM.up (fun x hx => hMM.kids x (by rw [List.take_length]; exact hx)) (by have := hMM.why; rw [List.take_length] at this; exact this) h2; (fun σ' h6 h7 h8 h9 => (e ▸ hK _ bad2 σ' h1 h3 h4 h5 h6 h7 h8 h9 : K (cntA (((1 : Int), (2 : Int)).1, min ((1 : Int), (2 : Int)).2 33)) σ'))
            refine hK' false (by first | decide | simp [badC]) _ (fun p hp => ?_) ?_ ?_ ?_
            · rcases List.mem_append.1 hp with hp | hp
              · rcases hMM.new p hp with hp | hp
                · exact .inl hp
                · exact .inr (Int.le_of_lt hp)
              · rw [List.mem_singleton] at hp
                subst hp
                exact .inr (Int.le_refl _)
            · simp only [xS, upd, m4, m4', k4, n54, n54', m5, m5', k5, n75, n75', n74, n74', m7, m7', k7, kbc, kbc', k4', k7', if_false, if_true, ↓reduceIte]; rfl
            · simp only [xS, upd, m4, m4', k4, n54, n54', m5, m5', k5, n75, n75', n74, n74', m7, m7', k7, kbc, kbc', k4', k7', if_false, if_true, ↓reduceIte]; rfl
            · skip
              repeat (first | exact Frm.refl | exact hF | refine Frm.new ?_ hb4 _ | refine Frm.new ?_ hb5 _ | refine Frm.new ?_ hb7 _ | refine Frm.new ?_ hr0 _ | refine Frm.own ?_ (.inl rfl) _ | refine Frm.own ?_ (.inr rfl) _)
      · have hk2 : n.kind = 2 := by unfold kindW at hk; split at hk <;> omega
        simp only [go_sem, xQ, ↓reduceIte, xA, xM, xL, xT, xE, xN, xP, xR, xS, hbc', m4, m4', k4, cntA, n54, n54', m5, m5', k5, n75, n75', n74, n74', m7, m7', k7, hk, e20, e21]
        refine callB_use (f223 f i b) rfl ?_
        simp only [go_sem, xQ, ↓reduceIte, xA, xM, xL, xT, xE, xN, xP, xR, xS, hbc', m4, m4', k4, cntA, n54, n54', m5, m5', k5, n75, n75', n74, n74', m7, m7', k7, hk]
        refine SemC.rangeE (xs := waysX n b) (D := ownD n) (E := noD) (pre := fun _ => True) (f := 252) (first := []) (captured := [.pp (fmC f) 0, .pp [int i, .v (.bool b)] 0]) mixed (by simp only [go_sem, xQ, ↓reduceIte, xA, xM, xL, xT, xE, xN, xP, xR, xS]) (f252 f i b n hn hkf) (by decide) (by kernel_rfl) (by kernel_rfl) own_ctl noD_ctl (fun _ _ _ _ _ _ => trivial)
          (fun k σ' => ∃ m1 bad1, Mid f.nodes i n b m bad k m1 bad1 ∧ σ' bc = some (cntRow f bm bad1) ∧ σ' bm = some (.map (mapW m1)) ∧ σ' b4 = some (.row [int 0, int 0] 2 1) ∧ σ' b7 = some (.row [int (((subC f.nodes n b).take k).getLastD (1, 0)).1, int (((subC f.nodes n b).take k).getLastD (1, 0)).2] 2 1) ∧  Frm bc bm σ σ')
          (fun e σ' => False)
          (fun k x ρ1 σ' => ∃ (j b8 : Nat) (m1 : List (WayT × AV)) (bad1 : Bool), (n.kids[k]? = some (j : Int) ∧ ρ1 2 = .pp [.v (.pointer (some ⟨bc, 0, none⟩))] 0 ∧ ρ1 7 = .v (.pointer (some ⟨b7, 0, none⟩)) ∧ ρ1 8 = .v (.pointer (some ⟨b8, 0, none⟩)) ∧  Mid f.nodes i n b m bad k m1 bad1) ∧ σ' b8 = some (.row [int j, .v (.bool (b != decide (n.kind = 2)))] 2 1) ∧ σ' bc = some (cntRow f bm bad1) ∧ σ' bm = some (.map (mapW m1)) ∧ σ' b4 = some (.row [int 0, int 0] 2 1) ∧ σ' b7 = some (.row [int (((subC f.nodes n b).take k).getLastD (1, 0)).1, int (((subC f.nodes n b).take k).getLastD (1, 0)).2] 2 1) ∧  Frm bc bm σ σ')
          (by intros; repeat' (first | exact Closed.row (fun h => h) | exact Closed.map (fun h => h) | exact Frm.closed (fun x hx => by first | exact hx | exact (un hx).2 | exact (un (un hx).2).2 | exact (un (un (un hx).2).2).2 | exact (un (un (un (un hx).2).2).2).2) | exact Closed.const _ | refine Closed.ex fun _ => ?_ | refine Closed.and ?_ ?_))
          (by intros; repeat' (first | exact Closed.row (fun h => h) | exact Closed.map (fun h => h) | exact Frm.closed (fun x hx => by first | exact hx | exact (un hx).2 | exact (un (un hx).2).2 | exact (un (un (un hx).2).2).2 | exact (un (un (un (un hx).2).2).2).2) | exact Closed.const _ | refine Closed.ex fun _ => ?_ | refine Closed.and ?_ ?_))
          (by intros; repeat' (first | exact Closed.row (fun h => h) | exact Closed.map (fun h => h) | exact Frm.closed (fun x hx => by first | exact hx | exact (un hx).2 | exact (un (un hx).2).2 | exact (un (un (un hx).2).2).2 | exact (un (un (un (un hx).2).2).2).2) | exact Closed.const _ | refine Closed.ex fun _ => ?_ | refine Closed.and ?_ ?_))
          ?_ ?_ ?_ ?_ ?_
        · exact ⟨m, bad, Mid.zero hm, by simp only [go_sem, xQ, ↓reduceIte, xA, xM, xL, xT, xE, xN, xP, xR, xS, m4, m5, m7]; exact hbc, by simp only [go_sem, xQ, ↓reduceIte, xA, xM, xL, xT, xE, xN, xP, xR, xS, k4, k5, k7]; exact hbm, by simp only [go_sem, xQ, ↓reduceIte, xA, xM, xL, xT, xE, xN, xP, xR, xS, n54', n74'], by simp [upd, int], ((Frm.refl.new hb4 _).new hb5 _).new hb7 _⟩
        · rintro k x E σ' lq hE hx ⟨m1, bad1, hM, qc, qm, q4, q7,  hF⟩
          obtain ⟨c, hc', rfl⟩ := waysX_get hx
          obtain ⟨j, rfl⟩ := Int.eq_ofNat_of_zero_le (hd i n hn c (mem_of_get hc')).1
          have e2 : E 2 = .pp [.v (.pointer (some ⟨bc, 0, none⟩))] 0 := by rw [hE 2 (by decide)]; simp only [go_sem, xQ, ↓reduceIte, xA, xM, xL, xT, xE, xN, xP, xR, xS]
          have e7 : E 7 = .v (.pointer (some ⟨b7, 0, none⟩)) := by rw [hE 7 (by decide)]; simp only [go_sem, xQ, ↓reduceIte, xA, xM, xL, xT, xE, xN, xP, xR, xS]
          skip
          simp only [go_sem, xQ, ↓reduceIte, xA, xM, xL, xT, xE, xN, xP, xR, xS, e2, e7]
          intro b8 hb8
          have x4 : ¬ b4 = b8 := nn hb8 q4
          have x7 : ¬ b7 = b8 := nn hb8 q7
          have xc : ¬ bc = b8 := nn hb8 qc
          have xm : ¬ bm = b8 := nn hb8 qm
          skip
          simp only [go_sem, xQ, ↓reduceIte, xA, xM, xL, xT, xE, xN, xP, xR, xS, e2, e7, hc']
          refine ⟨(Keep.refl _ _).upd (keep_none hb8), j, b8, m1, bad1, ?_⟩
          simp only [go_sem, xQ, ↓reduceIte, xA, xM, xL, xT, xE, xN, xP, xR, xS, e2, e7, hc', x4, x7, xc, xm, q4, q7, qc, qm, hc']
          exact ⟨hM, hF.fresh hb8 _⟩
        · rintro k x ρ1 σ' lq hx ⟨j, b8, m1, bad1, ⟨hc', h2, h7, h8, hM⟩, q8, qc, qm, q4, q7, hF⟩
          simp only [go_sem, xQ, ↓reduceIte, xA, xM, xL, xT, xE, xN, xP, xR, xS, h2, h7, h8, q8]
          obtain ⟨nc, hnc⟩ : ∃ nc, f.nodes[j]? = some nc := ⟨f.nodes[j]'(by have := (hd i n hn _ (mem_of_get hc')).2; have := lt_of_getElem? hn; omega), List.getElem?_eq_getElem _⟩
          have hji : (j : Int) < (i : Int) := (hd i n hn _ (mem_of_get hc')).2
          refine callB_a (ih j (b != decide (n.kind = 2)) nc m1 bad1 _ _ (by omega) hnc qc qm hM.memo ?_) rfl
          intro m2 bad2 σ2 hm2 u1 u2 u3 u4 qc2 qm2 hF2
          have q42 : σ2 b4 = some (.row [int 0, int 0] 2 1) := hF2 b4 _ m4' k4' q4
          have q72 : σ2 b7 = some (.row [int (((subC f.nodes n b).take k).getLastD (1, 0)).1, int (((subC f.nodes n b).take k).getLastD (1, 0)).2] 2 1) := hF2 b7 _ m7' k7' q7
          have hK2 := Frm.keep (n := n) qc own_cnt qm hF2
          have hM2 := hM.succ hc' hji hm2 u1 u2 u3 u4
          have hFF := hF.trans hF2
          have hcb := cntW_bd f.nodes ((j : Int), b != decide (n.kind = 2))
          have hsg := subC_get (l := f.nodes) (b := b) hc'
          have htk := take_succ hsg
          simp only [go_sem, xQ, ↓reduceIte, xA, xM, xL, xT, xE, xN, xP, xR, xS, h2, h7, h8, q72, cntA]
          refine ⟨hK2.upd (keep_row q7 (own_row (by decide))), m2, bad2, hM2, ?_⟩
          simp only [go_sem, xQ, ↓reduceIte, xA, xM, xL, xT, xE, xN, xP, xR, xS, m7, k7, n74', qc2, qm2, q42]
          rw [htk]
          refine ⟨?_, hFF.new hb7 _⟩
          simp [int]
        · rintro σ' r hr' ⟨m1, bad1, hMM, qc, qm, q4, q7,  hF⟩ hdr
          rw [waysX_len] at hMM
          rw [waysX_len, ← subC_len (l := f.nodes) (b := b), List.take_length] at q7
          have r4 : ¬ b4 = r := dn hdr q4
          have r7 : ¬ b7 = r := dn hdr q7
          have rc : ¬ bc = r := dn hdr qc
          have rm : ¬ bm = r := fun e => by rw [e, hdr] at qm; cases qm
          have r4' : ¬ r = b4 := fun e => r4 e.symm
          have r7' : ¬ r = b7 := fun e => r7 e.symm
          have rc' : ¬ r = bc := fun e => rc e.symm
          have rm' : ¬ r = bm := fun e => rm e.symm
          have hgm := getW_none hg hMM.new
          have qc' : σ' bc = some (.row [int f.vars, slN f.nodes, .v (.map (some bm)), .v (.bool bad1)] 4 1) := qc
          have hO : outC (kindW n b) b (n.kids.map fun x => cntW f.nodes (x, b != decide (n.kind = 2))) = (subC f.nodes n b).getLastD (1, 0) := by rw [hk]; rfl
          generalize (subC f.nodes n b).getLastD (1, 0) = o at q7 hO
          have hr0 : σ r = none := (un (un (un hr').2).2).2
          cases bad1 with
          | true =>
            simp only [go_sem, xQ, ↓reduceIte, xA, xM, xL, xT, xE, xN, xP, xR, xS, qc', q4, q7, hdr, minI, maxI, m4, m4', k4, n54, n54', m5, m5', k5, n75, n75', n74, n74', m7, m7', k7, kbc, kbc', k4', k7', r4, r7, rc, rm, r4', r7', rc', rm']
            refine mupB_way (a := (i, _)) us231 way229 (l := m1) (by simp only [upd, m4, m4', k4, n54, n54', m5, m5', k5, n75, n75', n74, n74', m7, m7', k7, kbc, kbc', k4', k7', r4, r7, rc, rm, r4', r7', rc', rm', if_false, if_true, ↓reduceIte]; exact qm) hgm ?_
            simp only [go_sem, xQ, ↓reduceIte, xA, xM, xL, xT, xE, xN, xP, xR, xS, m4, m4', k4, n54, n54', m5, m5', k5, n75, n75', n74, n74', m7, m7', k7, kbc, kbc', k4', k7', r4, r7, rc, rm, r4', r7', rc', rm', qc', q4, q7, hdr, cntA, minI]
            have hK' := fun bad2 (h2 : bad2 = (true || badC (o.1, min o.2 33))) => let ⟨e, h1, h3, h4, h5⟩ := fin146 hd hn hMM.memo hO hMM.up (fun x hx => hMM.kids x (by rw [List.take_length]; exact hx)) (by have := hMM.why; rw [List.take_length] at this; exact this) h2; (fun σ' h6 h7 h8 h9 => (e ▸ hK _ bad2 σ' h1 h3 h4 h5 h6 h7 h8 h9 : K (cntA (o.1, min o.2 33)) σ'))
            refine hK' true (by first | decide | simp [badC]) _ (fun p hp => ?_) ?_ ?_ ?_
            · rcases List.mem_append.1 hp with hp | hp
              · rcases hMM.new p hp with hp | hp
                · exact .inl hp
                · exact .inr (Int.le_of_lt hp)
              · rw [List.mem_singleton] at hp
                subst hp
                exact .inr (Int.le_refl _)
            · simp only [xS, upd, m4, m4', k4, n54, n54', m5, m5', k5, n75, n75', n74, n74', m7, m7', k7, kbc, kbc', k4', k7', r4, r7, rc, rm, r4', r7', rc', rm', if_false, if_true, ↓reduceIte]; rfl
            · simp only [xS, upd, m4, m4', k4, n54, n54', m5, m5', k5, n75, n75', n74, n74', m7, m7', k7, kbc, kbc', k4', k7', r4, r7, rc, rm, r4', r7', rc', rm', if_false, if_true, ↓reduceIte]; rfl
            · rw [ers_upd]
              repeat (first | exact Frm.refl | exact hF | refine Frm.new ?_ hb4 _ | refine Frm.new ?_ hb5 _ | refine Frm.new ?_ hb7 _ | refine Frm.new ?_ hr0 _ | refine Frm.own ?_ (.inl rfl) _ | refine Frm.own ?_ (.inr rfl) _)
          | false =>
            by_cases hA : 64 < o.1
            · simp only [go_sem, xQ, ↓reduceIte, xA, xM, xL, xT, xE, xN, xP, xR, xS, qc', q4, q7, hdr, minI, maxI, hA, m4, m4', k4, n54, n54', m5, m5', k5, n75, n75', n74, n74', m7, m7', k7, kbc, kbc', k4', k7', r4, r7, rc, rm, r4', r7', rc', rm']
              refine mupB_way (a := (i, _)) us231 way229 (l := m1) (by simp only [upd, m4, m4', k4, n54, n54', m5, m5', k5, n75, n75', n74, n74', m7, m7', k7, kbc, kbc', k4', k7', r4, r7, rc, rm, r4', r7', rc', rm', if_false, if_true, ↓reduceIte]; exact qm) hgm ?_
              simp only [go_sem, xQ, ↓reduceIte, xA, xM, xL, xT, xE, xN, xP, xR, xS, m4, m4', k4, n54, n54', m5, m5', k5, n75, n75', n74, n74', m7, m7', k7, kbc, kbc', k4', k7', r4, r7, rc, rm, r4', r7', rc', rm', qc', q4, q7, hdr, cntA, minI]
              have hK' := fun bad2 (h2 : bad2 = (false || badC (o.1, min o.2 33))) => let ⟨e, h1, h3, h4, h5⟩ := fin146 hd hn hMM.memo hO hMM.up (fun x hx => hMM.kids x (by rw [List.take_length]; exact hx)) (by have := hMM.why; rw [List.take_length] at this; exact this) h2; (fun σ' h6 h7 h8 h9 => (e ▸ hK _ bad2 σ' h1 h3 h4 h5 h6 h7 h8 h9 : K (cntA (o.1, min o.2 33)) σ'))
              refine hK' true (by first | decide | simp [badC, hA]) _ (fun p hp => ?_) ?_ ?_ ?_
              · rcases List.mem_append.1 hp with hp | hp
                · rcases hMM.new p hp with hp | hp
                  · exact .inl hp
                  · exact .inr (Int.le_of_lt hp)
                · rw [List.mem_singleton] at hp
                  subst hp
                  exact .inr (Int.le_refl _)
              · simp only [xS, upd, m4, m4', k4, n54, n54', m5, m5', k5, n75, n75', n74, n74', m7, m7', k7, kbc, kbc', k4', k7', r4, r7, rc, rm, r4', r7', rc', rm', if_false, if_true, ↓reduceIte]; rfl
              · simp only [xS, upd, m4, m4', k4, n54, n54', m5, m5', k5, n75, n75', n74, n74', m7, m7', k7, kbc, kbc', k4', k7', r4, r7, rc, rm, r4', r7', rc', rm', if_false, if_true, ↓reduceIte]; rfl
              · rw [ers_upd]
                repeat (first | exact Frm.refl | exact hF | refine Frm.new ?_ hb4 _ | refine Frm.new ?_ hb5 _ | refine Frm.new ?_ hb7 _ | refine Frm.new ?_ hr0 _ | refine Frm.own ?_ (.inl rfl) _ | refine Frm.own ?_ (.inr rfl) _)
            · by_cases hB : 32 < o.2
              · have hB' : 32 < min o.2 33 := by omega
                simp only [go_sem, xQ, ↓reduceIte, xA, xM, xL, xT, xE, xN, xP, xR, xS, qc', q4, q7, hdr, minI, maxI, hA, hB, m4, m4', k4, n54, n54', m5, m5', k5, n75, n75', n74, n74', m7, m7', k7, kbc, kbc', k4', k7', r4, r7, rc, rm, r4', r7', rc', rm']
                refine mupB_way (a := (i, _)) us231 way229 (l := m1) (by simp only [upd, m4, m4', k4, n54, n54', m5, m5', k5, n75, n75', n74, n74', m7, m7', k7, kbc, kbc', k4', k7', r4, r7, rc, rm, r4', r7', rc', rm', if_false, if_true, ↓reduceIte]; exact qm) hgm ?_
                simp only [go_sem, xQ, ↓reduceIte, xA, xM, xL, xT, xE, xN, xP, xR, xS, m4, m4', k4, n54, n54', m5, m5', k5, n75, n75', n74, n74', m7, m7', k7, kbc, kbc', k4', k7', r4, r7, rc, rm, r4', r7', rc', rm', qc', q4, q7, hdr, cntA, minI]
                have hK' := fun bad2 (h2 : bad2 = (false || badC (o.1, min o.2 33))) => let ⟨e, h1, h3, h4, h5⟩ := fin146 hd hn hMM.memo hO hMM.up (fun x hx => hMM.kids x (by rw [List.take_length]; exact hx)) (by have := hMM.why; rw [List.take_length] at this; exact this) h2; (fun σ' h6 h7 h8 h9 => (e ▸ hK _ bad2 σ' h1 h3 h4 h5 h6 h7 h8 h9 : K (cntA (o.1, min o.2 33)) σ'))
                refine hK' true (by first | decide | simp [badC, hB']) _ (fun p hp => ?_) ?_ ?_ ?_
                · rcases List.mem_append.1 hp with hp | hp
                  · rcases hMM.new p hp with hp | hp
                    · exact .inl hp
                    · exact .inr (Int.le_of_lt hp)
                  · rw [List.mem_singleton] at hp
                    subst hp
                    exact .inr (Int.le_refl _)
                · simp only [xS, upd, m4, m4', k4, n54, n54', m5, m5', k5, n75, n75', n74, n74', m7, m7', k7, kbc, kbc', k4', k7', r4, r7, rc, rm, r4', r7', rc', rm', if_false, if_true, ↓reduceIte]; rfl
                · simp only [xS, upd, m4, m4', k4, n54, n54', m5, m5', k5, n75, n75', n74, n74', m7, m7', k7, kbc, kbc', k4', k7', r4, r7, rc, rm, r4', r7', rc', rm', if_false, if_true, ↓reduceIte]; rfl
                · rw [ers_upd]
                  repeat (first | exact Frm.refl | exact hF | refine Frm.new ?_ hb4 _ | refine Frm.new ?_ hb5 _ | refine Frm.new ?_ hb7 _ | refine Frm.new ?_ hr0 _ | refine Frm.own ?_ (.inl rfl) _ | refine Frm.own ?_ (.inr rfl) _)
              · have hB' : ¬ 32 < min o.2 33 := by omega
                simp only [go_sem, xQ, ↓reduceIte, xA, xM, xL, xT, xE, xN, xP, xR, xS, qc', q4, q7, hdr, minI, maxI, hA, hB, m4, m4', k4, n54, n54', m5, m5', k5, n75, n75', n74, n74', m7, m7', k7, kbc, kbc', k4', k7', r4, r7, rc, rm, r4', r7', rc', rm']
                refine mupB_way (a := (i, _)) us231 way229 (l := m1) (by simp only [upd, m4, m4', k4, n54, n54', m5, m5', k5, n75, n75', n74, n74', m7, m7', k7, kbc, kbc', k4', k7', r4, r7, rc, rm, r4', r7', rc', rm', if_false, if_true, ↓reduceIte]; exact qm) hgm ?_
                simp only [go_sem, xQ, ↓reduceIte, xA, xM, xL, xT, xE, xN, xP, xR, xS, m4, m4', k4, n54, n54', m5, m5', k5, n75, n75', n74, n74', m7, m7', k7, kbc, kbc', k4', k7', r4, r7, rc, rm, r4', r7', rc', rm', qc', q4, q7, hdr, cntA, minI]
                have hK' := fun bad2 (h2 : bad2 = (false || badC (o.1, min o.2 33))) => let ⟨e, h1, h3, h4, h5⟩ := fin146 hd hn hMM.memo hO hMM.up (fun x hx => hMM.kids x (by rw [List.take_length]; exact hx)) (by have := hMM.why; rw [List.take_length] at this; exact this) h2; (fun σ' h6 h7 h8 h9 => (e ▸ hK _ bad2 σ' h1 h3 h4 h5 h6 h7 h8 h9 : K (cntA (o.1, min o.2 33)) σ'))
                refine hK' false (by first | decide | simp [badC, hA, hB']) _ (fun p hp => ?_) ?_ ?_ ?_
                · rcases List.mem_append.1 hp with hp | hp
                  · rcases hMM.new p hp with hp | hp
                    · exact .inl hp
                    · exact .inr (Int.le_of_lt hp)
                  · rw [List.mem_singleton] at hp
                    subst hp
                    exact .inr (Int.le_refl _)
                · simp only [xS, upd, m4, m4', k4, n54, n54', m5, m5', k5, n75, n75', n74, n74', m7, m7', k7, kbc, kbc', k4', k7', r4, r7, rc, rm, r4', r7', rc', rm', if_false, if_true, ↓reduceIte]; rfl
                · simp only [xS, upd, m4, m4', k4, n54, n54', m5, m5', k5, n75, n75', n74, n74', m7, m7', k7, kbc, kbc', k4', k7', r4, r7, rc, rm, r4', r7', rc', rm', if_false, if_true, ↓reduceIte]; rfl
                · rw [ers_upd]
                  repeat (first | exact Frm.refl | exact hF | refine Frm.new ?_ hb4 _ | refine Frm.new ?_ hb5 _ | refine Frm.new ?_ hb7 _ | refine Frm.new ?_ hr0 _ | refine Frm.own ?_ (.inl rfl) _ | refine Frm.own ?_ (.inr rfl) _)
        · rintro e σ' r hr' hF hd
          exact hF.elim
      · have hk2 : 2 ≤ n.kind := by unfold kindW at hk; split at hk <;> omega
        have hkl := (hok1.form hk2).2.1
        simp only [go_sem, xQ, ↓reduceIte, xA, xM, xL, xT, xE, xN, xP, xR, xS, hbc', m4, m4', k4, cntA, n54, n54', m5, m5', k5, n75, n75', n74, n74', m7, m7', k7, hk, e30, e31, e32]
        intro b9 hb9
        obtain ⟨n97, hb9⟩ := un hb9
        obtain ⟨n95, hb9⟩ := un hb9
        obtain ⟨n94, hb9⟩ := un hb9
        have n97' : ¬ b7 = b9 := fun e => n97 e.symm
        have n95' : ¬ b5 = b9 := fun e => n95 e.symm
        have n94' : ¬ b4 = b9 := fun e => n94 e.symm
        have m9 : ¬ bc = b9 := nn hb9 hbc
        have m9' : ¬ b9 = bc := fun e => m9 e.symm
        have k9 : ¬ bm = b9 := nn hb9 hbm
        have k9' : ¬ b9 = bm := fun e => k9 e.symm
        simp only [go_sem, xQ, ↓reduceIte, xA, xM, xL, xT, xE, xN, xP, xR, xS, hbc', m4, m4', k4, cntA, n54, n54', m5, m5', k5, n75, n75', n74, n74', m7, m7', k7, hk, n97, n97', n95, n95', n94, n94', m9, m9', k9, k9']
        refine callB_use (f223 f i b) rfl ?_
        simp only [go_sem, xQ, ↓reduceIte, xA, xM, xL, xT, xE, xN, xP, xR, xS, hbc', m4, m4', k4, cntA, n54, n54', m5, m5', k5, n75, n75', n74, n74', m7, m7', k7, hk, n97, n97', n95, n95', n94, n94', m9, m9', k9, k9']
        refine SemC.rangeE (xs := waysX n b) (D := ownD n) (E := noD) (pre := fun _ => True) (f := 252) (first := []) (captured := [.pp (fmC f) 0, .pp [int i, .v (.bool b)] 0]) mixed (by simp only [go_sem, xQ, ↓reduceIte, xA, xM, xL, xT, xE, xN, xP, xR, xS]) (f252 f i b n hn hkf) (by decide) (by kernel_rfl) (by kernel_rfl) own_ctl noD_ctl (fun _ _ _ _ _ _ => trivial)
          (fun k σ' => ∃ m1 bad1, Mid f.nodes i n b m bad k m1 bad1 ∧ σ' bc = some (cntRow f bm bad1) ∧ σ' bm = some (.map (mapW m1)) ∧ σ' b4 = some (.row [int 0, int 0] 2 1) ∧ σ' b7 = some (.row [int (((subC f.nodes n b).take k).foldl stepA (1, 0)).1, int (((subC f.nodes n b).take k).foldl stepA (1, 0)).2] 2 1) ∧ σ' b9 = some (.row [.v (.bool (anyZ ((subC f.nodes n b).take k)))] 1 1) ∧ Frm bc bm σ σ')
          (fun e σ' => False)
          (fun k x ρ1 σ' => ∃ (j b8 : Nat) (m1 : List (WayT × AV)) (bad1 : Bool), (n.kids[k]? = some (j : Int) ∧ ρ1 2 = .pp [.v (.pointer (some ⟨bc, 0, none⟩))] 0 ∧ ρ1 7 = .v (.pointer (some ⟨b7, 0, none⟩)) ∧ ρ1 10 = .v (.pointer (some ⟨b8, 0, none⟩)) ∧ ρ1 9 = .v (.pointer (some ⟨b9, 0, none⟩)) ∧ Mid f.nodes i n b m bad k m1 bad1) ∧ σ' b8 = some (.row [int j, .v (.bool (b != decide (n.kind = 2)))] 2 1) ∧ σ' bc = some (cntRow f bm bad1) ∧ σ' bm = some (.map (mapW m1)) ∧ σ' b4 = some (.row [int 0, int 0] 2 1) ∧ σ' b7 = some (.row [int (((subC f.nodes n b).take k).foldl stepA (1, 0)).1, int (((subC f.nodes n b).take k).foldl stepA (1, 0)).2] 2 1) ∧ σ' b9 = some (.row [.v (.bool (anyZ ((subC f.nodes n b).take k)))] 1 1) ∧ Frm bc bm σ σ')
          (by intros; repeat' (first | exact Closed.row (fun h => h) | exact Closed.map (fun h => h) | exact Frm.closed (fun x hx => by first | exact hx | exact (un hx).2 | exact (un (un hx).2).2 | exact (un (un (un hx).2).2).2 | exact (un (un (un (un hx).2).2).2).2) | exact Closed.const _ | refine Closed.ex fun _ => ?_ | refine Closed.and ?_ ?_))
          (by intros; repeat' (first | exact Closed.row (fun h => h) | exact Closed.map (fun h => h) | exact Frm.closed (fun x hx => by first | exact hx | exact (un hx).2 | exact (un (un hx).2).2 | exact (un (un (un hx).2).2).2 | exact (un (un (un (un hx).2).2).2).2) | exact Closed.const _ | refine Closed.ex fun _ => ?_ | refine Closed.and ?_ ?_))
          (by intros; repeat' (first | exact Closed.row (fun h => h) | exact Closed.map (fun h => h) | exact Frm.closed (fun x hx => by first | exact hx | exact (un hx).2 | exact (un (un hx).2).2 | exact (un (un (un hx).2).2).2 | exact (un (un (un (un hx).2).2).2).2) | exact Closed.const _ | refine Closed.ex fun _ => ?_ | refine Closed.and ?_ ?_))
          ?_ ?_ ?_ ?_ ?_
        · exact ⟨m, bad, Mid.zero hm, by simp only [go_sem, xQ, ↓reduceIte, xA, xM, xL, xT, xE, xN, xP, xR, xS, m4, m5, m7, m9]; exact hbc, by simp only [go_sem, xQ, ↓reduceIte, xA, xM, xL, xT, xE, xN, xP, xR, xS, k4, k5, k7, k9]; exact hbm, by simp only [go_sem, xQ, ↓reduceIte, xA, xM, xL, xT, xE, xN, xP, xR, xS, n54', n74', n94'], by simp [upd, int, n97'], by simp [upd, anyZ], (((Frm.refl.new hb4 _).new hb5 _).new hb7 _).new hb9 _⟩
        · rintro k x E σ' lq hE hx ⟨m1, bad1, hM, qc, qm, q4, q7, q9, hF⟩
          obtain ⟨c, hc', rfl⟩ := waysX_get hx
          obtain ⟨j, rfl⟩ := Int.eq_ofNat_of_zero_le (hd i n hn c (mem_of_get hc')).1
          have e2 : E 2 = .pp [.v (.pointer (some ⟨bc, 0, none⟩))] 0 := by rw [hE 2 (by decide)]; simp only [go_sem, xQ, ↓reduceIte, xA, xM, xL, xT, xE, xN, xP, xR, xS]
          have e7 : E 7 = .v (.pointer (some ⟨b7, 0, none⟩)) := by rw [hE 7 (by decide)]; simp only [go_sem, xQ, ↓reduceIte, xA, xM, xL, xT, xE, xN, xP, xR, xS]
          have e9 : E 9 = .v (.pointer (some ⟨b9, 0, none⟩)) := by rw [hE 9 (by decide)]; simp only [go_sem, xQ, ↓reduceIte, xA, xM, xL, xT, xE, xN, xP, xR, xS]
          simp only [go_sem, xQ, ↓reduceIte, xA, xM, xL, xT, xE, xN, xP, xR, xS, e2, e7]
          intro b8 hb8
          have x4 : ¬ b4 = b8 := nn hb8 q4
          have x7 : ¬ b7 = b8 := nn hb8 q7
          have xc : ¬ bc = b8 := nn hb8 qc
          have xm : ¬ bm = b8 := nn hb8 qm
          have x9 : ¬ b9 = b8 := nn hb8 q9
          simp only [go_sem, xQ, ↓reduceIte, xA, xM, xL, xT, xE, xN, xP, xR, xS, e2, e7, hc']
          refine ⟨(Keep.refl _ _).upd (keep_none hb8), j, b8, m1, bad1, ?_⟩
          simp only [go_sem, xQ, ↓reduceIte, xA, xM, xL, xT, xE, xN, xP, xR, xS, e2, e7, hc', x4, x7, xc, xm, q4, q7, qc, qm, e9, x9, q9]
          exact ⟨hM, hF.fresh hb8 _⟩
        · rintro k x ρ1 σ' lq hx ⟨j, b8, m1, bad1, ⟨hc', h2, h7, h8, h9, hM⟩, q8, qc, qm, q4, q7, q9, hF⟩
          simp only [go_sem, xQ, ↓reduceIte, xA, xM, xL, xT, xE, xN, xP, xR, xS, h2, h7, h8, h9, q8]
          obtain ⟨nc, hnc⟩ : ∃ nc, f.nodes[j]? = some nc := ⟨f.nodes[j]'(by have := (hd i n hn _ (mem_of_get hc')).2; have := lt_of_getElem? hn; omega), List.getElem?_eq_getElem _⟩
          have hji : (j : Int) < (i : Int) := (hd i n hn _ (mem_of_get hc')).2
          refine callB_a (ih j (b != decide (n.kind = 2)) nc m1 bad1 _ _ (by omega) hnc qc qm hM.memo ?_) rfl
          intro m2 bad2 σ2 hm2 u1 u2 u3 u4 qc2 qm2 hF2
          have q42 : σ2 b4 = some (.row [int 0, int 0] 2 1) := hF2 b4 _ m4' k4' q4
          have q72 : σ2 b7 = some (.row [int (((subC f.nodes n b).take k).foldl stepA (1, 0)).1, int (((subC f.nodes n b).take k).foldl stepA (1, 0)).2] 2 1) := hF2 b7 _ m7' k7' q7
          have hK2 := Frm.keep (n := n) qc own_cnt qm hF2
          have hM2 := hM.succ hc' hji hm2 u1 u2 u3 u4
          have hFF := hF.trans hF2
          have hcb := cntW_bd f.nodes ((j : Int), b != decide (n.kind = 2))
          have hsg := subC_get (l := f.nodes) (b := b) hc'
          have htk := take_succ hsg
          have q92 : σ2 b9 = some (.row [.v (.bool (anyZ ((subC f.nodes n b).take k)))] 1 1) := hF2 b9 _ m9' k9' q9
          obtain ⟨p1, p2, p3, p4⟩ := foldA_bd ((subC f.nodes n b).take k) (1, 0) (fun c hc => subC_bd c (List.mem_of_mem_take hc)) (by decide) (by decide) (by decide)
          have hkl2 : ((subC f.nodes n b).take k).length ≤ 200 := by rw [List.length_take, subC_len]; omega
          rw [htk, List.foldl_append, anyZ_snoc]
          generalize ((subC f.nodes n b).take k).foldl stepA (1, 0) = o at q72 p1 p2 p3 p4 q7 ⊢
          generalize anyZ ((subC f.nodes n b).take k) = z at q92 q9 ⊢
          obtain ⟨c1, c2, c3, c4⟩ := hcb
          generalize cntW f.nodes ((j : Int), b != decide (n.kind = 2)) = c at c1 c2 c3 c4 ⊢
          obtain ⟨p5, p6⟩ := mul65 p1 p2 c1 c2
          have hw1 : IntKind.i64.wrap (o.1 * c.1) = o.1 * c.1 := wrap_i64 _ (by omega) (by omega)
          have hw2 : IntKind.i64.wrap (o.2 + c.2) = o.2 + c.2 := wrap_i64 _ (by omega) (by omega)
          simp only [go_sem, xQ, ↓reduceIte, xA, xM, xL, xT, xE, xN, xP, xR, xS, h2, h7, h8, h9, q72, q92, cntA]
          intro b11 hb11
          have y7 : ¬ b7 = b11 := nn hb11 q72
          have y9 : ¬ b9 = b11 := nn hb11 q92
          have y4 : ¬ b4 = b11 := nn hb11 q42
          have yc : ¬ bc = b11 := nn hb11 qc2
          have ym : ¬ bm = b11 := nn hb11 qm2
          have y7' : ¬ b11 = b7 := fun e => y7 e.symm
          have y9' : ¬ b11 = b9 := fun e => y9 e.symm
          have hKK := (hK2.trans ((Keep.refl _ _).upd (keep_none hb11) (y := some (.row [int c.1, int c.2] 2 1))))
          cases z with
          | true =>
            simp only [go_sem, xQ, ↓reduceIte, xA, xM, xL, xT, xE, xN, xP, xR, xS, h2, h7, h8, h9, q72, q92, cntA, y7, y9, y7', y9', n97, n97', minI, hw1, hw2]
            refine ⟨(hKK.upd (keep_row q9 (own_row (by decide)))).upd (keep_row q7 (own_row (by decide))), m2, bad2, hM2, ?_⟩
            simp only [go_sem, xQ, ↓reduceIte, xA, xM, xL, xT, xE, xN, xP, xR, xS, qc2, qm2, q42, y4, yc, ym, m7, k7, n74', m9, k9, n94', n97]
            exact ⟨by simp [stepA], by simp, (((hFF.fresh hb11 _).new hb9 _).new hb7 _)⟩
          | false =>
            simp only [go_sem, xQ, ↓reduceIte, xA, xM, xL, xT, xE, xN, xP, xR, xS, h2, h7, h8, h9, q72, q92, cntA, y7, y9, y7', y9', n97, n97', minI, hw1, hw2, hG2]
            refine ⟨(hKK.upd (keep_row q9 (own_row (by decide)))).upd (keep_row q7 (own_row (by decide))), m2, bad2, hM2, ?_⟩
            simp only [go_sem, xQ, ↓reduceIte, xA, xM, xL, xT, xE, xN, xP, xR, xS, qc2, qm2, q42, y4, yc, ym, m7, k7, n74', m9, k9, n94', n97]
            exact ⟨by simp [stepA], by simp, (((hFF.fresh hb11 _).new hb9 _).new hb7 _)⟩
        · rintro σ' r hr' ⟨m1, bad1, hMM, qc, qm, q4, q7, q9, hF⟩ hdr
          rw [waysX_len] at hMM
          rw [waysX_len, ← subC_len (l := f.nodes) (b := b), List.take_length] at q7
          have r4 : ¬ b4 = r := dn hdr q4
          have r7 : ¬ b7 = r := dn hdr q7
          have rc : ¬ bc = r := dn hdr qc
          have rm : ¬ bm = r := fun e => by rw [e, hdr] at qm; cases qm
          have r4' : ¬ r = b4 := fun e => r4 e.symm
          have r7' : ¬ r = b7 := fun e => r7 e.symm
          have rc' : ¬ r = bc := fun e => rc e.symm
          have rm' : ¬ r = bm := fun e => rm e.symm
          have hgm := getW_none hg hMM.new
          have qc' : σ' bc = some (.row [int f.vars, slN f.nodes, .v (.map (some bm)), .v (.bool bad1)] 4 1) := qc
          rw [waysX_len, ← subC_len (l := f.nodes) (b := b), List.take_length] at q9
          have r9 : ¬ b9 = r := dn hdr q9
          have r9' : ¬ r = b9 := fun e => r9 e.symm
          have hr0 : σ r = none := (un (un (un (un hr').2).2).2).2
          have hO0 : outC (kindW n b) b (n.kids.map fun x => cntW f.nodes (x, b != decide (n.kind = 2))) = if anyZ (subC f.nodes n b) then (0, 0) else (subC f.nodes n b).foldl stepA (1, 0) := by rw [hk]; rfl
          cases hz : anyZ (subC f.nodes n b) with
          | true =>
            rw [hz] at hO0 q9
            have hO : outC (kindW n b) b (n.kids.map fun x => cntW f.nodes (x, b != decide (n.kind = 2))) = (0, 0) := hO0
            cases bad1 with
            | true =>
              simp only [go_sem, xQ, ↓reduceIte, xA, xM, xL, xT, xE, xN, xP, xR, xS, qc', q4, q7, q9, hdr, minI, maxI, hG2, m4, m4', k4, n54, n54', m5, m5', k5, n75, n75', n74, n74', m7, m7', k7, kbc, kbc', k4', k7', r4, r7, rc, rm, r4', r7', rc', rm']
              refine mupB_way (a := (i, _)) us231 way229 (l := m1) (by simp only [upd, m4, m4', k4, n54, n54', m5, m5', k5, n75, n75', n74, n74', m7, m7', k7, kbc, kbc', k4', k7', r4, r7, rc, rm, r4', r7', rc', rm', if_false, if_true, ↓reduceIte]; exact qm) hgm ?_
              simp only [go_sem, xQ, ↓reduceIte, xA, xM, xL, xT, xE, xN, xP, xR, xS, m4, m4', k4, n54, n54', m5, m5', k5, n75, n75', n74, n74', m7, m7', k7, kbc, kbc', k4', k7', r4, r7, rc, rm, r4', r7', rc', rm', qc', q4, q7, hdr, cntA, minI]
              have hK' := fun bad2 (h2 : bad2 = (true || badC (((0 : Int), (0 : Int)).1, min ((0 : Int), (0 : Int)).2 33))) => let ⟨e, h1, h3, h4, h5⟩ := fin146 hd hn hMM.memo hO hMM.up (fun x hx => hMM.kids x (by rw [List.take_length]; exact hx)) (by have := hMM.why; rw [List.take_length] at this; exact this) h2; (fun σ' h6 h7 h8 h9 => (e ▸ hK _ bad2 σ' h1 h3 h4 h5 h6 h7 h8 h9 : K (cntA (((0 : Int), (0 : Int)).1, min ((0 : Int), (0 : Int)).2 33)) σ'))
              refine hK' true (by first | decide | simp [badC]) _ (fun p hp => ?_) ?_ ?_ ?_
              · rcases List.mem_append.1 hp with hp | hp
                · rcases hMM.new p hp with hp | hp
                  · exact .inl hp
                  · exact .inr (Int.le_of_lt hp)
                · rw [List.mem_singleton] at hp
                  subst hp
                  exact .inr (Int.le_refl _)
              · simp only [xS, upd, m4, m4', k4, n54, n54', m5, m5', k5, n75, n75', n74, n74', m7, m7', k7, kbc, kbc', k4', k7', r4, r7, rc, rm, r4', r7', rc', rm', if_false, if_true, ↓reduceIte]; rfl
              · simp only [xS, upd, m4, m4', k4, n54, n54', m5, m5', k5, n75, n75', n74, n74', m7, m7', k7, kbc, kbc', k4', k7', r4, r7, rc, rm, r4', r7', rc', rm', if_false, if_true, ↓reduceIte]; rfl
              · rw [ers_upd]
                repeat (first | exact Frm.refl | exact hF | refine Frm.new ?_ hb4 _ | refine Frm.new ?_ hb5 _ | refine Frm.new ?_ hb7 _ | refine Frm.new ?_ hr0 _ | refine Frm.own ?_ (.inl rfl) _ | refine Frm.own ?_ (.inr rfl) _)
            | false =>
              simp only [go_sem, xQ, ↓reduceIte, xA, xM, xL, xT, xE, xN, xP, xR, xS, qc', q4, q7, q9, hdr, minI, maxI, hG2, m4, m4', k4, n54, n54', m5, m5', k5, n75, n75', n74, n74', m7, m7', k7, kbc, kbc', k4', k7', r4, r7, rc, rm, r4', r7', rc', rm']
              refine mupB_way (a := (i, _)) us231 way229 (l := m1) (by simp only [upd, m4, m4', k4, n54, n54', m5, m5', k5, n75, n75', n74, n74', m7, m7', k7, kbc, kbc', k4', k7', r4, r7, rc, rm, r4', r7', rc', rm', if_false, if_true, ↓reduceIte]; exact qm) hgm ?_
              simp only [go_sem, xQ, ↓reduceIte, xA, xM, xL, xT, xE, xN, xP, xR, xS, m4, m4', k4, n54, n54', m5, m5', k5, n75, n75', n74, n74', m7, m7', k7, kbc, kbc', k4', k7', r4, r7, rc, rm, r4', r7', rc', rm', qc', q4, q7, hdr, cntA, minI]
              have hK' := fun bad2 (h2 : bad2 = (false || badC (((0 : Int), (0 : Int)).1, min ((0 : Int), (0 : Int)).2 33))) => let ⟨e, h1, h3, h4, h5⟩ := fin146 hd hn hMM.memo hO hMM.up (fun x hx => hMM.kids x (by rw [List.take_length]; exact hx)) (by have := hMM.why; rw [List.take_length] at this; exact this) h2; (fun σ' h6 h7 h8 h9 => (e ▸ hK _ bad2 σ' h1 h3 h4 h5 h6 h7 h8 h9 : K (cntA (((0 : Int), (0 : Int)).1, min ((0 : Int), (0 : Int)).2 33)) σ'))
              refine hK' false (by first | decide | simp [badC]) _ (fun p hp => ?_) ?_ ?_ ?_
              · rcases List.mem_append.1 hp with hp | hp
                · rcases hMM.new p hp with hp | hp
                  · exact .inl hp
                  · exact .inr (Int.le_of_lt hp)
                · rw [List.mem_singleton] at hp
                  subst hp
                  exact .inr (Int.le_refl _)
              · simp only [xS, upd, m4, m4', k4, n54, n54', m5, m5', k5, n75, n75', n74, n74', m7, m7', k7, kbc, kbc', k4', k7', r4, r7, rc, rm, r4', r7', rc', rm', if_false, if_true, ↓reduceIte]; rfl
              · simp only [xS, upd, m4, m4', k4, n54, n54', m5, m5', k5, n75, n75', n74, n74', m7, m7', k7, kbc, kbc', k4', k7', r4, r7, rc, rm, r4', r7', rc', rm', if_false, if_true, ↓reduceIte]; rfl
              · rw [ers_upd]
                repeat (first | exact Frm.refl | exact hF | refine Frm.new ?_ hb4 _ | refine Frm.new ?_ hb5 _ | refine Frm.new ?_ hb7 _ | refine Frm.new ?_ hr0 _ | refine Frm.own ?_ (.inl rfl) _ | refine Frm.own ?_ (.inr rfl) _)
          | false =>
            rw [hz] at hO0 q9
            have hO : outC (kindW n b) b (n.kids.map fun x => cntW f.nodes (x, b != decide (n.kind = 2))) = (subC f.nodes n b).foldl stepA (1, 0) := hO0
            generalize (subC f.nodes n b).foldl stepA (1, 0) = o at q7 hO
            cases bad1 with
            | true =>
              simp only [go_sem, xQ, ↓reduceIte, xA, xM, xL, xT, xE, xN, xP, xR, xS, qc', q4, q7, hdr, minI, maxI, q9, m4, m4', k4, n54, n54', m5, m5', k5, n75, n75', n74, n74', m7, m7', k7, kbc, kbc', k4', k7', r4, r7, rc, rm, r4', r7', rc', rm']
              refine mupB_way (a := (i, _)) us231 way229 (l := m1) (by simp only [upd, q9, m4, m4', k4, n54, n54', m5, m5', k5, n75, n75', n74, n74', m7, m7', k7, kbc, kbc', k4', k7', r4, r7, rc, rm, r4', r7', rc', rm', if_false, if_true, ↓reduceIte]; exact qm) hgm ?_
              simp only [go_sem, xQ, ↓reduceIte, xA, xM, xL, xT, xE, xN, xP, xR, xS, q9, m4, m4', k4, n54, n54', m5, m5', k5, n75, n75', n74, n74', m7, m7', k7, kbc, kbc', k4', k7', r4, r7, rc, rm, r4', r7', rc', rm', qc', q4, q7, hdr, cntA, minI]
              have hK' := fun bad2 (h2 : bad2 = (true || badC (o.1, min o.2 33))) => let ⟨e, h1, h3, h4, h5⟩ := fin146 hd hn hMM.memo hO hMM.up (fun x hx => hMM.kids x (by rw [List.take_length]; exact hx)) (by have := hMM.why; rw [List.take_length] at this; exact this) h2; (fun σ' h6 h7 h8 h9 => (e ▸ hK _ bad2 σ' h1 h3 h4 h5 h6 h7 h8 h9 : K (cntA (o.1, min o.2 33)) σ'))
              refine hK' true (by first | decide | simp [badC]) _ (fun p hp => ?_) ?_ ?_ ?_
              · rcases List.mem_append.1 hp with hp | hp
                · rcases hMM.new p hp with hp | hp
                  · exact .inl hp
                  · exact .inr (Int.le_of_lt hp)
                · rw [List.mem_singleton] at hp
                  subst hp
                  exact .inr (Int.le_refl _)
              · simp only [xS, upd, q9, m4, m4', k4, n54, n54', m5, m5', k5, n75, n75', n74, n74', m7, m7', k7, kbc, kbc', k4', k7', r4, r7, rc, rm, r4', r7', rc', rm', if_false, if_true, ↓reduceIte]; rfl
              · simp only [xS, upd, q9, m4, m4', k4, n54, n54', m5, m5', k5, n75, n75', n74, n74', m7, m7', k7, kbc, kbc', k4', k7', r4, r7, rc, rm, r4', r7', rc', rm', if_false, if_true, ↓reduceIte]; rfl
              · rw [ers_upd]
                repeat (first | exact Frm.refl | exact hF | refine Frm.new ?_ hb4 _ | refine Frm.new ?_ hb5 _ | refine Frm.new ?_ hb7 _ | refine Frm.new ?_ hr0 _ | refine Frm.own ?_ (.inl rfl) _ | refine Frm.own ?_ (.inr rfl) _)
            | false =>
              by_cases hA : 64 < o.1
              · simp only [go_sem, xQ, ↓reduceIte, xA, xM, xL, xT, xE, xN, xP, xR, xS, qc', q4, q7, hdr, minI, maxI, hA, q9, m4, m4', k4, n54, n54', m5, m5', k5, n75, n75', n74, n74', m7, m7', k7, kbc, kbc', k4', k7', r4, r7, rc, rm, r4', r7', rc', rm']
                refine mupB_way (a := (i, _)) us231 way229 (l := m1) (by simp only [upd, q9, m4, m4', k4, n54, n54', m5, m5', k5, n75, n75', n74, n74', m7, m7', k7, kbc, kbc', k4', k7', r4, r7, rc, rm, r4', r7', rc', rm', if_false, if_true, ↓reduceIte]; exact qm) hgm ?_
                simp only [go_sem, xQ, ↓reduceIte, xA, xM, xL, xT, xE, xN, xP, xR, xS, q9, m4, m4', k4, n54, n54', m5, m5', k5, n75, n75', n74, n74', m7, m7', k7, kbc, kbc', k4', k7', r4, r7, rc, rm, r4', r7', rc', rm', qc', q4, q7, hdr, cntA, minI]
                have hK' := fun bad2 (h2 : bad2 = (false || badC (o.1, min o.2 33))) => let ⟨e, h1, h3, h4, h5⟩ := fin146 hd hn hMM.memo hO hMM.up (fun x hx => hMM.kids x (by rw [List.take_length]; exact hx)) (by have := hMM.why; rw [List.take_length] at this; exact this) h2; (fun σ' h6 h7 h8 h9 => (e ▸ hK _ bad2 σ' h1 h3 h4 h5 h6 h7 h8 h9 : K (cntA (o.1, min o.2 33)) σ'))
                refine hK' true (by first | decide | simp [badC, hA]) _ (fun p hp => ?_) ?_ ?_ ?_
                · rcases List.mem_append.1 hp with hp | hp
                  · rcases hMM.new p hp with hp | hp
                    · exact .inl hp
                    · exact .inr (Int.le_of_lt hp)
                  · rw [List.mem_singleton] at hp
                    subst hp
                    exact .inr (Int.le_refl _)
                · simp only [xS, upd, q9, m4, m4', k4, n54, n54', m5, m5', k5, n75, n75', n74, n74', m7, m7', k7, kbc, kbc', k4', k7', r4, r7, rc, rm, r4', r7', rc', rm', if_false, if_true, ↓reduceIte]; rfl
                · simp only [xS, upd, q9, m4, m4', k4, n54, n54', m5, m5', k5, n75, n75', n74, n74', m7, m7', k7, kbc, kbc', k4', k7', r4, r7, rc, rm, r4', r7', rc', rm', if_false, if_true, ↓reduceIte]; rfl
                · rw [ers_upd]
                  repeat (first | exact Frm.refl | exact hF | refine Frm.new ?_ hb4 _ | refine Frm.new ?_ hb5 _ | refine Frm.new ?_ hb7 _ | refine Frm.new ?_ hr0 _ | refine Frm.own ?_ (.inl rfl) _ | refine Frm.own ?_ (.inr rfl) _)
              · by_cases hB : 32 < o.2
                · have hB' : 32 < min o.2 33 := by omega
                  simp only [go_sem, xQ, ↓reduceIte, xA, xM, xL, xT, xE, xN, xP, xR, xS, qc', q4, q7, hdr, minI, maxI, hA, hB, q9, m4, m4', k4, n54, n54', m5, m5', k5, n75, n75', n74, n74', m7, m7', k7, kbc, kbc', k4', k7', r4, r7, rc, rm, r4', r7', rc', rm']
                  refine mupB_way (a := (i, _)) us231 way229 (l := m1) (by simp only [upd, q9, m4, m4', k4, n54, n54', m5, m5', k5, n75, n75', n74, n74', m7, m7', k7, kbc, kbc', k4', k7', r4, r7, rc, rm, r4', r7', rc', rm', if_false, if_true, ↓reduceIte]; exact qm) hgm ?_
                  simp only [go_sem, xQ, ↓reduceIte, xA, xM, xL, xT, xE, xN, xP, xR, xS, q9, m4, m4', k4, n54, n54', m5, m5', k5, n75, n75', n74, n74', m7, m7', k7, kbc, kbc', k4', k7', r4, r7, rc, rm, r4', r7', rc', rm', qc', q4, q7, hdr, cntA, minI]
                  have hK' := fun bad2 (h2 : bad2 = (false || badC (o.1, min o.2 33))) => let ⟨e, h1, h3, h4, h5⟩ := fin146 hd hn hMM.memo hO hMM.up (fun x hx => hMM.kids x (by rw [List.take_length]; exact hx)) (by have := hMM.why; rw [List.take_length] at this; exact this) h2; (fun σ' h6 h7 h8 h9 => (e ▸ hK _ bad2 σ' h1 h3 h4 h5 h6 h7 h8 h9 : K (cntA (o.1, min o.2 33)) σ'))
                  refine hK' true (by first | decide | simp [badC, hB']) _ (fun p hp => ?_) ?_ ?_ ?_
                  · rcases List.mem_append.1 hp with hp | hp
                    · rcases hMM.new p hp with hp | hp
                      · exact .inl hp
                      · exact .inr (Int.le_of_lt hp)
                    · rw [List.mem_singleton] at hp
                      subst hp
                      exact .inr (Int.le_refl _)
                  · simp only [xS, upd, q9, m4, m4', k4, n54, n54', m5, m5', k5, n75, n75', n74, n74', m7, m7', k7, kbc, kbc', k4', k7', r4, r7, rc, rm, r4', r7', rc', rm', if_false, if_true, ↓reduceIte]; rfl
                  · simp only [xS, upd, q9, m4, m4', k4, n54, n54', m5, m5', k5, n75, n75', n74, n74', m7, m7', k7, kbc, kbc', k4', k7', r4, r7, rc, rm, r4', r7', rc', rm', if_false, if_true, ↓reduceIte]; rfl
                  · rw [ers_upd]
                    repeat (first | exact Frm.refl | exact hF | refine Frm.new ?_ hb4 _ | refine Frm.new ?_ hb5 _ | refine Frm.new ?_ hb7 _ | refine Frm.new ?_ hr0 _ | refine Frm.own ?_ (.inl rfl) _ | refine Frm.own ?_ (.inr rfl) _)
                · have hB' : ¬ 32 < min o.2 33 := by omega
                  simp only [go_sem, xQ, ↓reduceIte, xA, xM, xL, xT, xE, xN, xP, xR, xS, qc', q4, q7, hdr, minI, maxI, hA, hB, q9, m4, m4', k4, n54, n54', m5, m5', k5, n75, n75', n74, n74', m7, m7', k7, kbc, kbc', k4', k7', r4, r7, rc, rm, r4', r7', rc', rm']
                  refine mupB_way (a := (i, _)) us231 way229 (l := m1) (by simp only [upd, q9, m4, m4', k4, n54, n54', m5, m5', k5, n75, n75', n74, n74', m7, m7', k7, kbc, kbc', k4', k7', r4, r7, rc, rm, r4', r7', rc', rm', if_false, if_true, ↓reduceIte]; exact qm) hgm ?_
                  simp only [go_sem, xQ, ↓reduceIte, xA, xM, xL, xT, xE, xN, xP, xR, xS, q9, m4, m4', k4, n54, n54', m5, m5', k5, n75, n75', n74, n74', m7, m7', k7, kbc, kbc', k4', k7', r4, r7, rc, rm, r4', r7', rc', rm', qc', q4, q7, hdr, cntA, minI]
                  have hK' := fun bad2 (h2 : bad2 = (false || badC (o.1, min o.2 33))) => let ⟨e, h1, h3, h4, h5⟩ := fin146 hd hn hMM.memo hO hMM.up (fun x hx => hMM.kids x (by rw [List.take_length]; exact hx)) (by have := hMM.why; rw [List.take_length] at this; exact this) h2; (fun σ' h6 h7 h8 h9 => (e ▸ hK _ bad2 σ' h1 h3 h4 h5 h6 h7 h8 h9 : K (cntA (o.1, min o.2 33)) σ'))
                  refine hK' false (by first | decide | simp [badC, hA, hB']) _ (fun p hp => ?_) ?_ ?_ ?_
                  · rcases List.mem_append.1 hp with hp | hp
                    · rcases hMM.new p hp with hp | hp
                      · exact .inl hp
                      · exact .inr (Int.le_of_lt hp)
                    · rw [List.mem_singleton] at hp
                      subst hp
                      exact .inr (Int.le_refl _)
                  · simp only [xS, upd, q9, m4, m4', k4, n54, n54', m5, m5', k5, n75, n75', n74, n74', m7, m7', k7, kbc, kbc', k4', k7', r4, r7, rc, rm, r4', r7', rc', rm', if_false, if_true, ↓reduceIte]; rfl
                  · simp only [xS, upd, q9, m4, m4', k4, n54, n54', m5, m5', k5, n75, n75', n74, n74', m7, m7', k7, kbc, kbc', k4', k7', r4, r7, rc, rm, r4', r7', rc', rm', if_false, if_true, ↓reduceIte]; rfl
                  · rw [ers_upd]
                    repeat (first | exact Frm.refl | exact hF | refine Frm.new ?_ hb4 _ | refine Frm.new ?_ hb5 _ | refine Frm.new ?_ hb7 _ | refine Frm.new ?_ hr0 _ | refine Frm.own ?_ (.inl rfl) _ | refine Frm.own ?_ (.inr rfl) _)
        · rintro e σ' r hr' hF hd
          exact hF.elim
      · have hk2 : 2 ≤ n.kind := by unfold kindW at hk; split at hk <;> omega
        have hkl := (hok1.form hk2).2.1
        simp only [go_sem, xQ, ↓reduceIte, xA, xM, xL, xT, xE, xN, xP, xR, xS, hbc', m4, m4', k4, cntA, n54, n54', m5, m5', k5, n75, n75', n74, n74', m7, m7', k7, hk, e40, e41, e42, e43, hG2]
        refine callB_use (f223 f i b) rfl ?_
        simp only [go_sem, xQ, ↓reduceIte, xA, xM, xL, xT, xE, xN, xP, xR, xS, hbc', m4, m4', k4, cntA, n54, n54', m5, m5', k5, n75, n75', n74, n74', m7, m7', k7, hk]
        refine SemC.rangeE (xs := waysX n b) (D := ownD n) (E := noD) (pre := fun _ => True) (f := 252) (first := []) (captured := [.pp (fmC f) 0, .pp [int i, .v (.bool b)] 0]) mixed (by simp only [go_sem, xQ, ↓reduceIte, xA, xM, xL, xT, xE, xN, xP, xR, xS]) (f252 f i b n hn hkf) (by decide) (by kernel_rfl) (by kernel_rfl) own_ctl noD_ctl (fun _ _ _ _ _ _ => trivial)
          (fun k σ' => ∃ m1 bad1, Mid f.nodes i n b m bad k m1 bad1 ∧ σ' bc = some (cntRow f bm bad1) ∧ σ' bm = some (.map (mapW m1)) ∧ σ' b4 = some (.row [int 0, int 0] 2 1) ∧ σ' b7 = some (.row [int (((subC f.nodes n b).take k).foldl stepO (0, 0)).1, int (((subC f.nodes n b).take k).foldl stepO (0, 0)).2] 2 1) ∧  Frm bc bm σ σ')
          (fun e σ' => False)
          (fun k x ρ1 σ' => ∃ (j b8 : Nat) (m1 : List (WayT × AV)) (bad1 : Bool), (n.kids[k]? = some (j : Int) ∧ ρ1 2 = .pp [.v (.pointer (some ⟨bc, 0, none⟩))] 0 ∧ ρ1 7 = .v (.pointer (some ⟨b7, 0, none⟩)) ∧ ρ1 12 = .v (.pointer (some ⟨b8, 0, none⟩)) ∧  Mid f.nodes i n b m bad k m1 bad1) ∧ σ' b8 = some (.row [int j, .v (.bool (b != decide (n.kind = 2)))] 2 1) ∧ σ' bc = some (cntRow f bm bad1) ∧ σ' bm = some (.map (mapW m1)) ∧ σ' b4 = some (.row [int 0, int 0] 2 1) ∧ σ' b7 = some (.row [int (((subC f.nodes n b).take k).foldl stepO (0, 0)).1, int (((subC f.nodes n b).take k).foldl stepO (0, 0)).2] 2 1) ∧  Frm bc bm σ σ')
          (by intros; repeat' (first | exact Closed.row (fun h => h) | exact Closed.map (fun h => h) | exact Frm.closed (fun x hx => by first | exact hx | exact (un hx).2 | exact (un (un hx).2).2 | exact (un (un (un hx).2).2).2 | exact (un (un (un (un hx).2).2).2).2) | exact Closed.const _ | refine Closed.ex fun _ => ?_ | refine Closed.and ?_ ?_))
          (by intros; repeat' (first | exact Closed.row (fun h => h) | exact Closed.map (fun h => h) | exact Frm.closed (fun x hx => by first | exact hx | exact (un hx).2 | exact (un (un hx).2).2 | exact (un (un (un hx).2).2).2 | exact (un (un (un (un hx).2).2).2).2) | exact Closed.const _ | refine Closed.ex fun _ => ?_ | refine Closed.and ?_ ?_))
          (by intros; repeat' (first | exact Closed.row (fun h => h) | exact Closed.map (fun h => h) | exact Frm.closed (fun x hx => by first | exact hx | exact (un hx).2 | exact (un (un hx).2).2 | exact (un (un (un hx).2).2).2 | exact (un (un (un (un hx).2).2).2).2) | exact Closed.const _ | refine Closed.ex fun _ => ?_ | refine Closed.and ?_ ?_))
          ?_ ?_ ?_ ?_ ?_
        · exact ⟨m, bad, Mid.zero hm, by simp only [go_sem, xQ, ↓reduceIte, xA, xM, xL, xT, xE, xN, xP, xR, xS, m4, m5, m7]; exact hbc, by simp only [go_sem, xQ, ↓reduceIte, xA, xM, xL, xT, xE, xN, xP, xR, xS, k4, k5, k7]; exact hbm, by simp only [go_sem, xQ, ↓reduceIte, xA, xM, xL, xT, xE, xN, xP, xR, xS, n54', n74'], by simp [upd, int], ((Frm.refl.new hb4 _).new hb5 _).new hb7 _⟩
        · rintro k x E σ' lq hE hx ⟨m1, bad1, hM, qc, qm, q4, q7,  hF⟩
          obtain ⟨c, hc', rfl⟩ := waysX_get hx
          obtain ⟨j, rfl⟩ := Int.eq_ofNat_of_zero_le (hd i n hn c (mem_of_get hc')).1
          have e2 : E 2 = .pp [.v (.pointer (some ⟨bc, 0, none⟩))] 0 := by rw [hE 2 (by decide)]; simp only [go_sem, xQ, ↓reduceIte, xA, xM, xL, xT, xE, xN, xP, xR, xS]
          have e7 : E 7 = .v (.pointer (some ⟨b7, 0, none⟩)) := by rw [hE 7 (by decide)]; simp only [go_sem, xQ, ↓reduceIte, xA, xM, xL, xT, xE, xN, xP, xR, xS]
          skip
          simp only [go_sem, xQ, ↓reduceIte, xA, xM, xL, xT, xE, xN, xP, xR, xS, e2, e7]
          intro b8 hb8
          have x4 : ¬ b4 = b8 := nn hb8 q4
          have x7 : ¬ b7 = b8 := nn hb8 q7
          have xc : ¬ bc = b8 := nn hb8 qc
          have xm : ¬ bm = b8 := nn hb8 qm
          skip
          simp only [go_sem, xQ, ↓reduceIte, xA, xM, xL, xT, xE, xN, xP, xR, xS, e2, e7, hc']
          refine ⟨(Keep.refl _ _).upd (keep_none hb8), j, b8, m1, bad1, ?_⟩
          simp only [go_sem, xQ, ↓reduceIte, xA, xM, xL, xT, xE, xN, xP, xR, xS, e2, e7, hc', x4, x7, xc, xm, q4, q7, qc, qm, hc']
          exact ⟨hM, hF.fresh hb8 _⟩
        · rintro k x ρ1 σ' lq hx ⟨j, b8, m1, bad1, ⟨hc', h2, h7, h8, hM⟩, q8, qc, qm, q4, q7, hF⟩
          simp only [go_sem, xQ, ↓reduceIte, xA, xM, xL, xT, xE, xN, xP, xR, xS, h2, h7, h8, q8]
          obtain ⟨nc, hnc⟩ : ∃ nc, f.nodes[j]? = some nc := ⟨f.nodes[j]'(by have := (hd i n hn _ (mem_of_get hc')).2; have := lt_of_getElem? hn; omega), List.getElem?_eq_getElem _⟩
          have hji : (j : Int) < (i : Int) := (hd i n hn _ (mem_of_get hc')).2
          refine callB_a (ih j (b != decide (n.kind = 2)) nc m1 bad1 _ _ (by omega) hnc qc qm hM.memo ?_) rfl
          intro m2 bad2 σ2 hm2 u1 u2 u3 u4 qc2 qm2 hF2
          have q42 : σ2 b4 = some (.row [int 0, int 0] 2 1) := hF2 b4 _ m4' k4' q4
          have q72 : σ2 b7 = some (.row [int (((subC f.nodes n b).take k).foldl stepO (0, 0)).1, int (((subC f.nodes n b).take k).foldl stepO (0, 0)).2] 2 1) := hF2 b7 _ m7' k7' q7
          have hK2 := Frm.keep (n := n) qc own_cnt qm hF2
          have hM2 := hM.succ hc' hji hm2 u1 u2 u3 u4
          have hFF := hF.trans hF2
          have hcb := cntW_bd f.nodes ((j : Int), b != decide (n.kind = 2))
          have hsg := subC_get (l := f.nodes) (b := b) hc'
          have htk := take_succ hsg
          obtain ⟨p1, p2, p3, p4⟩ := foldO_bd ((subC f.nodes n b).take k) (0, 0) (fun c hc => subC_bd c (List.mem_of_mem_take hc)) (by simp [bdC])
          rw [htk, List.foldl_append]
          generalize ((subC f.nodes n b).take k).foldl stepO (0, 0) = o at q72 p1 p2 p3 p4 q7 ⊢
          obtain ⟨c1, c2, c3, c4⟩ := hcb
          generalize cntW f.nodes ((j : Int), b != decide (n.kind = 2)) = c at c1 c2 c3 c4 ⊢
          have hw1 : IntKind.i64.wrap (o.1 + c.1) = o.1 + c.1 := wrap_i64 _ (by omega) (by omega)
          simp only [go_sem, xQ, ↓reduceIte, xA, xM, xL, xT, xE, xN, xP, xR, xS, h2, h7, h8, q72, cntA]
          intro b11 hb11
          have y7 : ¬ b7 = b11 := nn hb11 q72
          have y4 : ¬ b4 = b11 := nn hb11 q42
          have yc : ¬ bc = b11 := nn hb11 qc2
          have ym : ¬ bm = b11 := nn hb11 qm2
          have y7' : ¬ b11 = b7 := fun e => y7 e.symm
          have hKK := (hK2.trans ((Keep.refl _ _).upd (keep_none hb11) (y := some (.row [int c.1, int c.2] 2 1))))
          simp only [go_sem, xQ, ↓reduceIte, xA, xM, xL, xT, xE, xN, xP, xR, xS, h2, h7, h8, q72, cntA, y7, y7', minI, maxI, hw1]
          refine ⟨hKK.upd (keep_row q7 (own_row (by decide))), m2, bad2, hM2, ?_⟩
          simp only [go_sem, xQ, ↓reduceIte, xA, xM, xL, xT, xE, xN, xP, xR, xS, qc2, qm2, q42, y4, yc, ym, m7, k7, n74']
          exact ⟨by simp [stepO], ((hFF.fresh hb11 _).new hb7 _)⟩
        · rintro σ' r hr' ⟨m1, bad1, hMM, qc, qm, q4, q7,  hF⟩ hdr
          rw [waysX_len] at hMM
          rw [waysX_len, ← subC_len (l := f.nodes) (b := b), List.take_length] at q7
          have r4 : ¬ b4 = r := dn hdr q4
          have r7 : ¬ b7 = r := dn hdr q7
          have rc : ¬ bc = r := dn hdr qc
          have rm : ¬ bm = r := fun e => by rw [e, hdr] at qm; cases qm
          have r4' : ¬ r = b4 := fun e => r4 e.symm
          have r7' : ¬ r = b7 := fun e => r7 e.symm
          have rc' : ¬ r = bc := fun e => rc e.symm
          have rm' : ¬ r = bm := fun e => rm e.symm
          have hgm := getW_none hg hMM.new
          have qc' : σ' bc = some (.row [int f.vars, slN f.nodes, .v (.map (some bm)), .v (.bool bad1)] 4 1) := qc
          have hO : outC (kindW n b) b (n.kids.map fun x => cntW f.nodes (x, b != decide (n.kind = 2))) = (subC f.nodes n b).foldl stepO (0, 0) := by rw [hk]; rfl
          generalize (subC f.nodes n b).foldl stepO (0, 0) = o at q7 hO
          have hr0 : σ r = none := (un (un (un hr').2).2).2
          cases bad1 with
          | true =>
            simp only [go_sem, xQ, ↓reduceIte, xA, xM, xL, xT, xE, xN, xP, xR, xS, qc', q4, q7, hdr, minI, maxI, m4, m4', k4, n54, n54', m5, m5', k5, n75, n75', n74, n74', m7, m7', k7, kbc, kbc', k4', k7', r4, r7, rc, rm, r4', r7', rc', rm']
            refine mupB_way (a := (i, _)) us231 way229 (l := m1) (by simp only [upd, m4, m4', k4, n54, n54', m5, m5', k5, n75, n75', n74, n74', m7, m7', k7, kbc, kbc', k4', k7', r4, r7, rc, rm, r4', r7', rc', rm', if_false, if_true, ↓reduceIte]; exact qm) hgm ?_
            simp only [go_sem, xQ, ↓reduceIte, xA, xM, xL, xT, xE, xN, xP, xR, xS, m4, m4', k4, n54, n54', m5, m5', k5, n75, n75', n74, n74', m7, m7', k7, kbc, kbc', k4', k7', r4, r7, rc, rm, r4', r7', rc', rm', qc', q4, q7, hdr, cntA, minI]
            have hK' := fun bad2 (h2 : bad2 = (true || badC (o.1, min o.2 33))) => let ⟨e, h1, h3, h4, h5⟩ := fin146 hd hn hMM.memo hO hMM.up (fun x hx => hMM.kids x (by rw [List.take_length]; exact hx)) (by have := hMM.why; rw [List.take_length] at this; exact this) h2; (fun σ' h6 h7 h8 h9 => (e ▸ hK _ bad2 σ' h1 h3 h4 h5 h6 h7 h8 h9 : K (cntA (o.1, min o.2 33)) σ'))
            refine hK' true (by first | decide | simp [badC]) _ (fun p hp => ?_) ?_ ?_ ?_
            · rcases List.mem_append.1 hp with hp | hp
              · rcases hMM.new p hp with hp | hp
                · exact .inl hp
                · exact .inr (Int.le_of_lt hp)
              · rw [List.mem_singleton] at hp
                subst hp
                exact .inr (Int.le_refl _)
            · simp only [xS, upd, m4, m4', k4, n54, n54', m5, m5', k5, n75, n75', n74, n74', m7, m7', k7, kbc, kbc', k4', k7', r4, r7, rc, rm, r4', r7', rc', rm', if_false, if_true, ↓reduceIte]; rfl
            · simp only [xS, upd, m4, m4', k4, n54, n54', m5, m5', k5, n75, n75', n74, n74', m7, m7', k7, kbc, kbc', k4', k7', r4, r7, rc, rm, r4', r7', rc', rm', if_false, if_true, ↓reduceIte]; rfl
            · rw [ers_upd]
              repeat (first | exact Frm.refl | exact hF | refine Frm.new ?_ hb4 _ | refine Frm.new ?_ hb5 _ | refine Frm.new ?_ hb7 _ | refine Frm.new ?_ hr0 _ | refine Frm.own ?_ (.inl rfl) _ | refine Frm.own ?_ (.inr rfl) _)
          | false =>
            by_cases hA : 64 < o.1
            · simp only [go_sem, xQ, ↓reduceIte, xA, xM, xL, xT, xE, xN, xP, xR, xS, qc', q4, q7, hdr, minI, maxI, hA, m4, m4', k4, n54, n54', m5, m5', k5, n75, n75', n74, n74', m7, m7', k7, kbc, kbc', k4', k7', r4, r7, rc, rm, r4', r7', rc', rm']
              refine mupB_way (a := (i, _)) us231 way229 (l := m1) (by simp only [upd, m4, m4', k4, n54, n54', m5, m5', k5, n75, n75', n74, n74', m7, m7', k7, kbc, kbc', k4', k7', r4, r7, rc, rm, r4', r7', rc', rm', if_false, if_true, ↓reduceIte]; exact qm) hgm ?_
              simp only [go_sem, xQ, ↓reduceIte, xA, xM, xL, xT, xE, xN, xP, xR, xS, m4, m4', k4, n54, n54', m5, m5', k5, n75, n75', n74, n74', m7, m7', k7, kbc, kbc', k4', k7', r4, r7, rc, rm, r4', r7', rc', rm', qc', q4, q7, hdr, cntA, minI]
              have hK' := fun bad2 (h2 : bad2 = (false || badC (o.1, min o.2 33))) => let ⟨e, h1, h3, h4, h5⟩ := fin146 hd hn hMM.memo hO hMM.up (fun x hx => hMM.kids x (by rw [List.take_length]; exact hx)) (by have := hMM.why; rw [List.take_length] at this; exact this) h2; (fun σ' h6 h7 h8 h9 => (e ▸ hK _ bad2 σ' h1 h3 h4 h5 h6 h7 h8 h9 : K (cntA (o.1, min o.2 33)) σ'))
              refine hK' true (by first | decide | simp [badC, hA]) _ (fun p hp => ?_) ?_ ?_ ?_
              · rcases List.mem_append.1 hp with hp | hp
                · rcases hMM.new p hp with hp | hp
                  · exact .inl hp
                  · exact .inr (Int.le_of_lt hp)
                · rw [List.mem_singleton] at hp
                  subst hp
                  exact .inr (Int.le_refl _)
              · simp only [xS, upd, m4, m4', k4, n54, n54', m5, m5', k5, n75, n75', n74, n74', m7, m7', k7, kbc, kbc', k4', k7', r4, r7, rc, rm, r4', r7', rc', rm', if_false, if_true, ↓reduceIte]; rfl
              · simp only [xS, upd, m4, m4', k4, n54, n54', m5, m5', k5, n75, n75', n74, n74', m7, m7', k7, kbc, kbc', k4', k7', r4, r7, rc, rm, r4', r7', rc', rm', if_false, if_true, ↓reduceIte]; rfl
              · rw [ers_upd]
                repeat (first | exact Frm.refl | exact hF | refine Frm.new ?_ hb4 _ | refine Frm.new ?_ hb5 _ | refine Frm.new ?_ hb7 _ | refine Frm.new ?_ hr0 _ | refine Frm.own ?_ (.inl rfl) _ | refine Frm.own ?_ (.inr rfl) _)
            · by_cases hB : 32 < o.2
              · have hB' : 32 < min o.2 33 := by omega
                simp only [go_sem, xQ, ↓reduceIte, xA, xM, xL, xT, xE, xN, xP, xR, xS, qc', q4, q7, hdr, minI, maxI, hA, hB, m4, m4', k4, n54, n54', m5, m5', k5, n75, n75', n74, n74', m7, m7', k7, kbc, kbc', k4', k7', r4, r7, rc, rm, r4', r7', rc', rm']
                refine mupB_way (a := (i, _)) us231 way229 (l := m1) (by simp only [upd, m4, m4', k4, n54, n54', m5, m5', k5, n75, n75', n74, n74', m7, m7', k7, kbc, kbc', k4', k7', r4, r7, rc, rm, r4', r7', rc', rm', if_false, if_true, ↓reduceIte]; exact qm) hgm ?_
                simp only [go_sem, xQ, ↓reduceIte, xA, xM, xL, xT, xE, xN, xP, xR, xS, m4, m4', k4, n54, n54', m5, m5', k5, n75, n75', n74, n74', m7, m7', k7, kbc, kbc', k4', k7', r4, r7, rc, rm, r4', r7', rc', rm', qc', q4, q7, hdr, cntA, minI]
                have hK' := fun bad2 (h2 : bad2 = (false || badC (o.1, min o.2 33))) => let ⟨e, h1, h3, h4, h5⟩ := fin146 hd hn hMM.memo hO hMM.up (fun x hx => hMM.kids x (by rw [List.take_length]; exact hx)) (by have := hMM.why; rw [List.take_length] at this; exact this) h2; (fun σ' h6 h7 h8 h9 => (e ▸ hK _ bad2 σ' h1 h3 h4 h5 h6 h7 h8 h9 : K (cntA (o.1, min o.2 33)) σ'))
                refine hK' true (by first | decide | simp [badC, hB']) _ (fun p hp => ?_) ?_ ?_ ?_
                · rcases List.mem_append.1 hp with hp | hp
                  · rcases hMM.new p hp with hp | hp
                    · exact .inl hp
                    · exact .inr (Int.le_of_lt hp)
                  · rw [List.mem_singleton] at hp
                    subst hp
                    exact .inr (Int.le_refl _)
                · simp only [xS, upd, m4, m4', k4, n54, n54', m5, m5', k5, n75, n75', n74, n74', m7, m7', k7, kbc, kbc', k4', k7', r4, r7, rc, rm, r4', r7', rc', rm', if_false, if_true, ↓reduceIte]; rfl
                · simp only [xS, upd, m4, m4', k4, n54, n54', m5, m5', k5, n75, n75', n74, n74', m7, m7', k7, kbc, kbc', k4', k7', r4, r7, rc, rm, r4', r7', rc', rm', if_false, if_true, ↓reduceIte]; rfl
                · rw [ers_upd]
                  repeat (first | exact Frm.refl | exact hF | refine Frm.new ?_ hb4 _ | refine Frm.new ?_ hb5 _ | refine Frm.new ?_ hb7 _ | refine Frm.new ?_ hr0 _ | refine Frm.own ?_ (.inl rfl) _ | refine Frm.own ?_ (.inr rfl) _)
              · have hB' : ¬ 32 < min o.2 33 := by omega
                simp only [go_sem, xQ, ↓reduceIte, xA, xM, xL, xT, xE, xN, xP, xR, xS, qc', q4, q7, hdr, minI, maxI, hA, hB, m4, m4', k4, n54, n54', m5, m5', k5, n75, n75', n74, n74', m7, m7', k7, kbc, kbc', k4', k7', r4, r7, rc, rm, r4', r7', rc', rm']
                refine mupB_way (a := (i, _)) us231 way229 (l := m1) (by simp only [upd, m4, m4', k4, n54, n54', m5, m5', k5, n75, n75', n74, n74', m7, m7', k7, kbc, kbc', k4', k7', r4, r7, rc, rm, r4', r7', rc', rm', if_false, if_true, ↓reduceIte]; exact qm) hgm ?_
                simp only [go_sem, xQ, ↓reduceIte, xA, xM, xL, xT, xE, xN, xP, xR, xS, m4, m4', k4, n54, n54', m5, m5', k5, n75, n75', n74, n74', m7, m7', k7, kbc, kbc', k4', k7', r4, r7, rc, rm, r4', r7', rc', rm', qc', q4, q7, hdr, cntA, minI]
                have hK' := fun bad2 (h2 : bad2 = (false || badC (o.1, min o.2 33))) => let ⟨e, h1, h3, h4, h5⟩ := fin146 hd hn hMM.memo hO hMM.up (fun x hx => hMM.kids x (by rw [List.take_length]; exact hx)) (by have := hMM.why; rw [List.take_length] at this; exact this) h2; (fun σ' h6 h7 h8 h9 => (e ▸ hK _ bad2 σ' h1 h3 h4 h5 h6 h7 h8 h9 : K (cntA (o.1, min o.2 33)) σ'))
                refine hK' false (by first | decide | simp [badC, hA, hB']) _ (fun p hp => ?_) ?_ ?_ ?_
                · rcases List.mem_append.1 hp with hp | hp
                  · rcases hMM.new p hp with hp | hp
                    · exact .inl hp
                    · exact .inr (Int.le_of_lt hp)
                  · rw [List.mem_singleton] at hp
                    subst hp
                    exact .inr (Int.le_refl _)
                · simp only [xS, upd, m4, m4', k4, n54, n54', m5, m5', k5, n75, n75', n74, n74', m7, m7', k7, kbc, kbc', k4', k7', r4, r7, rc, rm, r4', r7', rc', rm', if_false, if_true, ↓reduceIte]; rfl
                · simp only [xS, upd, m4, m4', k4, n54, n54', m5, m5', k5, n75, n75', n74, n74', m7, m7', k7, kbc, kbc', k4', k7', r4, r7, rc, rm, r4', r7', rc', rm', if_false, if_true, ↓reduceIte]; rfl
                · rw [ers_upd]
                  repeat (first | exact Frm.refl | exact hF | refine Frm.new ?_ hb4 _ | refine Frm.new ?_ hb5 _ | refine Frm.new ?_ hb7 _ | refine Frm.new ?_ hr0 _ | refine Frm.own ?_ (.inl rfl) _ | refine Frm.own ?_ (.inr rfl) _)
        · rintro e σ' r hr' hF hd
          exact hF.elim
end Go.AL
