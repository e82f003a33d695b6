/- Slices of no elements: nil, or not; told apart at the call. -/
import Derived.Test.YtjimmpldofoimaaGreatDoorAlBase
import Derived.Test.YtjimmpldofoimaaGreatDoorAlSeq
set_option linter.unusedVariables false
set_option linter.unusedSimpArgs false
namespace Go.AL
open Go.Proofs
theorem pcalls_nil {P : Program} {Γ : Glob} {f : FuncId} {args : List AV} {r : AV} (h1 : PCalls P Γ f (.v (.slice none 0 0) :: args) r) (h2 : ∀ a c, PCalls P Γ f (.v (.slice (some a) 0 c) :: args) r) : PCalls P Γ f (.sl [] 0 :: args) r := fun σ => by
  refine ⟨(h1 σ).1, fun w vs hr hv => ?_⟩
  cases hv with
  | cons hx hs =>
    cases hx with
    | slnil => exact (h1 σ).2 w _ hr (.cons (.v _) hs)
    | sl _ _ _ => exact (h2 _ _ σ).2 w _ hr (.cons (.v _) hs)
theorem appB_weak {P : Program} {Γ : Glob} {σ : Sig} {t0 t1 : TypeId} {s x x' : AV} {K : AV → Sig → Prop} (hx : ∀ w v, Rep w σ x v → Rep w σ x' v) (h : appB P Γ σ t0 t1 s x' K) : appB P Γ σ t0 t1 s x K := fun ty w vs hr hv => by
  cases hv with
  | cons h1 h2 =>
    cases h2 with
    | cons h3 h4 =>
      cases h4
      exact h ty w _ hr (.cons h1 (.cons (hx _ _ h3) .nil))
theorem weak_empty {σ : Sig} {a : Addr} {c : Nat} (w : World) (v : Value) (h : Rep w σ (.v (.slice (some a) 0 c)) v) : Rep w σ (.sl [] 0) v := by
  cases h
  exact .sl .nil (fun h => absurd rfl h) (Nat.zero_le _)
/-- An append onto nothing, told as frozen. -/
theorem appB_frz {P : Program} {Γ : Glob} {σ : Sig} {t0 t1 e e1 : TypeId} {k : TK} {bytes : Nat} (h : elemOf P t0 = some (none, e)) (hk : tkOf P e = some k) (hb : P.bytesOf e = bytes) (h1 : elemOf P t1 = some (none, e1)) (hs : k.size ≠ 0) (hz : k.zero.length = k.size) (hp : 0 < bytes) {cs : List AV} {n : Nat} (hl : cs.length = n * k.size) (hsum : n * bytes ≤ 140737488355328) : ∀ K : AV → Sig → Prop, K (.sl cs n) σ → appB P Γ σ t0 t1 .e0 (.sl cs n) K := fun K hK =>
  appB_pure (k := k) (x := .sl cs n) (xs := cs) (n := n) (appT_sl h hk hb h1 hs hz hp) (.inr rfl) (show Src σ k.size (.sl cs n) cs n from ⟨rfl, rfl, hl⟩) hl hsum hK
end Go.AL

/- append of so many new elements onto nil: a row without told cells, and room. -/
set_option linter.unusedVariables false
set_option linter.unusedSimpArgs false
namespace Go.AL
section
variable {P : Program} {Γ : Glob} {σ : Sig} {w : World}
/-- What such an append asks of the types. -/
structure AppM (P : Program) (t0 t1 : TypeId) (k : TK) (bytes : Nat) : Prop where
  slice : ∃ e i, P.underlying t0 = some (.slice e) ∧ tkOf P e = some k ∧ P.info? e = some i ∧ i.bytes = bytes
  src : P.underlying t1 = some (.int .i64)
  size : k.size ≠ 0
  zero : k.zero.length = k.size
  pos : 0 < bytes
theorem append_made {t0 t1 ty : TypeId} {k : TK} {bytes : Nat} (hT : AppM P t0 t1 k bytes) {n : Nat} (hsum : n * bytes ≤ 140737488355328) (h0 : 0 < n) :
    ∃ (d newCap : Nat) (rest : List Value) (el : TypeId), n ≤ newCap ∧ rest.length = newCap * k.size ∧ (Builtin.append_ #[t0, t1] ty #[.slice none 0 0, .int .i64 n]).run P w =
      .ok (.slice (some ⟨w.heap.size, 0, none⟩) n newCap) { atD w d with heap := w.heap.push (.cells rest.toArray el (0, 0)) } := by
  obtain ⟨e, i, h1, h2, h3, h4⟩ := hT.slice
  obtain ⟨z, hzr, hzz⟩ := run_zero_tk h2 w
  have hpos := hT.pos
  have hb0 : ¬ i.bytes = 0 := by omega
  have hfit : ¬ (281474976710656 < Builtin.nextslicecap n 0 * i.bytes) := by
    have := growslice_fits (old := 0) (bytes := i.bytes) (by omega : 0 < n) (by rw [h4]; exact hsum)
    omega
  have hnb : n ≤ 140737488355328 := Nat.le_trans (Nat.le_mul_of_pos_right n hpos) hsum
  have hi : (typeInfo e).run P w = .ok i w := by simp [typeInfo, h3]
  have hid : ∀ d, (typeInfo e).run P (atD w d) = .ok i (atD w d) := fun d => by simp [typeInfo, h3]
  have hzd : ∀ d, (zeroValue e).run P (atD w d) = .ok z (atD w d) := fun d => by
    obtain ⟨i', d', z', hi', _, hz', hk'⟩ := tkOf_some h2
    simp [zeroValue, typeInfo, hi'] at hzr ⊢
    rw [hz'] at hzr ⊢
    simpa using hzr
  have hzs : z.cells.size = k.size := by
    have := congrArg List.length hzz
    simp at this
    rw [← this, hT.zero]
  let q : Question := .appendCap n 0 e
  have hge : n ≤ q.cut (w.tape w.drawn q) := by simp [q, Question.cut]
  refine ⟨w.drawn + 1, q.cut (w.tape w.drawn q), (Builtin.zeroCells z.cells n).toList ++ (Builtin.zeroCells z.cells (q.cut (w.tape w.drawn q) - n)).toList, e, hge, ?_, ?_⟩
  · rw [List.length_append, Array.length_toList, Array.length_toList, zeroCells_size, zeroCells_size, hzs, ← Nat.add_mul]
    congr 1
    omega
  · have hwrap : IntKind.i64.wrap (n : Int) = n := wrap_nat n (by omega)
    have hneg : ¬ ((n : Int) < 0) := by omega
    have hbig : ¬ ((2 : Int) ^ 48 < (n : Int) * (i.bytes : Int)) := by
      rw [h4]
      have : ((n * bytes : Nat) : Int) ≤ 140737488355328 := by omega
      rw [Int.natCast_mul] at this
      omega
    have hmax : ¬ (IntKind.i64.max < (n : Int)) := by
      have : IntKind.i64.max = 9223372036854775807 := by decide
      omega
    have hns : ¬ n * k.size = 0 := Nat.mul_ne_zero (by omega) hT.size
    have hid' : (typeInfo e).run P w.drew = .ok i w.drew := hid (w.drawn + 1)
    have hzd' : (zeroValue e).run P w.drew = .ok z w.drew := hzd (w.drawn + 1)
    have h0' : ¬ n ≤ 0 := by omega
    have hn0 : ¬ n = 0 := by omega
    have has : (asInt (.int .i64 (n : Int))).run P w = .ok (n : Int) w := by simp [asInt, asIntOf]
    have hmx : max (n : Int) 0 = n := by omega
    have hmx2 : ¬ ((9223372036854775807 : Int) < n) := by omega
    have hb48 : ¬ ((281474976710656 : Int) < (n : Int) * (i.bytes : Int)) := hbig
    simp only [Builtin.append_, Sem.run_bind, run_underlying h1, Result.andThen_ok, run_sizeOf_tk h2, run_underlying hT.src, Sem.run_pure, Bool.false_eq_true, if_false, if_true, Sem.run_ite, hi, List.getElem?_toArray, List.getElem?_cons_zero, List.getElem?_cons_succ]
    simp [hb0, hfit, hi, hid', hzd', newRow, Question.forced, q, hwrap, hneg, hbig, hmax, hns, has, h0', Builtin.firstCells, hn0, hmx, hmx2, hb48]
    have ea : ∀ X Y : Array Value, (X.toList ++ Y.toList).toArray = X ++ Y := fun X Y => by apply Array.ext'; simp
    rw [ea]
    rfl
theorem appM {P : Program} {t0 t1 e : TypeId} {k : TK} {bytes : Nat} (h : elemOf P t0 = some (none, e)) (hk : tkOf P e = some k) (hb : P.bytesOf e = bytes) (h1 : P.underlying t1 = some (.int .i64)) (hs : k.size ≠ 0) (hz : k.zero.length = k.size) (hp : 0 < bytes) : AppM P t0 t1 k bytes := by
  refine ⟨?_, h1, hs, hz, hp⟩
  obtain ⟨i, d, z, hi, hd, hz, rfl⟩ := tkOf_some hk
  refine ⟨e, i, elemOf_slice h, hk, hi, ?_⟩
  rw [← hb]
  simp [Program.bytesOf, hi]
/-- Room for so many elements: none of them is told. -/
theorem appB_make {t0 t1 : TypeId} {k : TK} {bytes : Nat} (hT : AppM P t0 t1 k bytes) {n : Nat} (hsum : n * bytes ≤ 140737488355328) (h0 : 0 < n) {K : AV → Sig → Prop}
    (hK : ∀ b c, σ b = none → n ≤ c → K (.own b k.size 0 n) (upd σ b (some (.row [] k.size c)))) : appB P Γ σ t0 t1 (.v (.slice none 0 0)) (.v (.int .i64 n)) K := by
  intro ty w vs r hv
  cases hv with | cons h_s hv => cases hv with | cons h_x hv => cases hv with | nil =>
  cases h_s
  cases h_x
  obtain ⟨d, newCap, rest, el, h2, h3, h4⟩ := append_made (P := P) (w := w) (t0 := t0) (t1 := t1) (ty := ty) hT hsum h0
  have rD : Rel Γ (atD w d) σ := r.of_heap rfl rfl rfl rfl
  have eD : Ext w σ (atD w d) σ := Ext.of_heap rfl rfl rfl rfl
  have hsz : (atD w d).heap.size = w.heap.size := rfl
  have eA := Ext.alloc (w := atD w d) (σ := σ) (.cells rest.toArray el (0, 0)) (.row [] k.size newCap) rD.fresh
  have hrow : BlkRep { atD w d with heap := (atD w d).heap.push (.cells rest.toArray el (0, 0)) } (upd σ w.heap.size (some (.row [] k.size newCap))) w.heap.size (.row [] k.size newCap) :=
    ⟨[], rest, el, by simp, .nil, by simpa using h3⟩
  have rA := rD.alloc (.cells rest.toArray el (0, 0)) (.row [] k.size newCap) hrow
  refine ⟨_, _, _, _, h4, ?_, rA, eD.trans eA, hK w.heap.size newCap r.fresh h2⟩
  refine .own (by simp) h2 (fun _ => by simp) (fun cs s' c hc => ?_)
  rw [hsz, upd_same] at hc
  cases hc
  exact ⟨rfl, by omega⟩
end
end Go.AL
