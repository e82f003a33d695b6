/- Maps whose keys are pairs of an integer and a bool (ways): look-ups, writes. -/
import Derived.Test.YtjimmpldofoimaaGreatDoorAlEq
import Derived.Test.YtjimmpldofoimaaGreatDoorAm
set_option linter.unusedVariables false
set_option linter.unusedSimpArgs false
namespace Go.AL
open Go.Proofs
abbrev WayT := Int × Bool
def wayV (k : WayT) : Value := .agg #[.int .i64 k.1, .bool k.2]
def wayK (k : WayT) : AV := .agg [.v (.int .i64 k.1), .v (.bool k.2)]
def mapW (l : List (WayT × AV)) : List (AV × AV) := l.map fun p => (wayK p.1, p.2)
def getW : List (WayT × AV) → WayT → Option AV
  | [], _ => none
  | p :: l, k => if k = p.1 then some p.2 else getW l k
theorem rep_way {w : World} {σ : Sig} {k : WayT} {v : Value} (h : Rep w σ (wayK k) v) : v = wayV k := by
  unfold wayK at h
  cases h with | agg h =>
  cases h with | cons h1 h => cases h with | cons h2 h => cases h with | nil =>
  cases h1; cases h2; rfl
theorem way_rep {w : World} {σ : Sig} {k : WayT} : Rep w σ (wayK k) (wayV k) := .agg (.cons (.v _) (.cons (.v _) .nil))
/-- A type of keys that is told apart by the two parts. -/
structure WayKey (P : Program) (k : TypeId) : Prop where
  und : ∃ fs, P.underlying k = some (.struct fs)
  eq : ∀ (w : World) (a b : WayT), (Op.equal k (wayV a) (wayV b)).run P w = .ok (decide (a = b)) w
  chk : ∀ (w : World) (em : Bool) (a : WayT), (Instr.checkKey em 10000 k (wayV a)).run P w = .ok () w
theorem ask_way {P : Program} {k : TypeId} (hk : WayKey P k) {w : World} {σ : Sig} (a : WayT) : ∀ (l : List (WayT × AV)) (ents : List MapEntry) (i : Nat), Reps w σ (l.map fun p => wayK p.1) (ents.map (·.key)) → Reps w σ (l.map (·.2)) (ents.map (·.val)) →
    match getW l a with
    | none => (Instr.findAsking k (wayV a) ents i).run P w = .ok none w
    | some x => ∃ j v, (Instr.findAsking k (wayV a) ents i).run P w = .ok (some (j, v)) w ∧ Rep w σ x v
  | [], [], i, _, _ => by simp [getW, Instr.findAsking]
  | [], _ :: _, i, h, _ => by cases h
  | _ :: _, [], i, h, _ => by cases h
  | p :: l, e :: ents, i, h, h2 => by
    cases h with | cons h hs =>
    cases h2 with | cons h2 hs2 =>
    have ih := ask_way hk a l ents (i + 1) hs hs2
    have hkey := rep_way h
    by_cases ha : a = p.1
    · simp only [getW, if_pos ha]
      exact ⟨i, e.val, by simp [Instr.findAsking, hkey, hk.eq, ha], h2⟩
    · simp only [getW, if_neg ha]
      have hf : (Instr.findAsking k (wayV a) (e :: ents) i).run P w = (Instr.findAsking k (wayV a) ents (i + 1)).run P w := by simp [Instr.findAsking, hkey, hk.eq, ha]
      rw [hf]
      exact ih
theorem find_way {P : Program} {k : TypeId} (hk : WayKey P k) {w : World} {σ : Sig} (a : WayT) (l : List (WayT × AV)) (ents : List MapEntry) (h : Reps w σ (l.map fun p => wayK p.1) (ents.map (·.key))) (h2 : Reps w σ (l.map (·.2)) (ents.map (·.val))) :
    match getW l a with
    | none => (Instr.findKey k (wayV a) ents).run P w = .ok none w
    | some x => ∃ j v, (Instr.findKey k (wayV a) ents).run P w = .ok (some (j, v)) w ∧ Rep w σ x v := by
  obtain ⟨fs, hu⟩ := hk.und
  have := ask_way hk a l ents 0 h h2
  cases ents with
  | nil =>
    cases l with
    | nil => simp [getW, Instr.findKey, run_underlying hu, Instr.findNow]
    | cons p l => cases h
  | cons e ents =>
    have hf : (Instr.findKey k (wayV a) (e :: ents)).run P w = (Instr.findAsking k (wayV a) (e :: ents) 0).run P w := by
      simp [Instr.findKey, run_underlying hu, Instr.findNow, Instr.sameNow]
    rw [hf]
    exact this
section
variable {P : Program} {Γ : Glob} {σ : Sig} {t k e : TypeId} {b : Nat} {l : List (WayT × AV)} {a : WayT} {K : AV → Sig → Prop}
theorem lookB_way (ht : P.underlying t = some (.map k e)) (hk : WayKey P k) {z : AV} (he : ∀ (w : World) (σ : Sig), ∃ v, (zeroValue e).run P w = .ok v w ∧ Rep w σ z v) (hb : σ b = some (.map (mapW l)))
    (hK : match getW l a with | some x => K (.tup [x, .v (.bool true)]) σ | none => K (.tup [z, .v (.bool false)]) σ) : lookB P Γ σ t true (.v (.map (some b))) (wayK a) K := by
  intro w vs rel hv
  cases hv with | cons h1 hv => cases hv with | cons h2 hv => cases hv with | nil =>
  cases h1
  obtain rfl := rep_way h2
  obtain ⟨_, ents, clock, hh, hks, hvs⟩ := rel.blk b _ hb
  have hf := find_way hk a l ents.toList (by simpa [mapW, Function.comp_def] using hks) (by simpa [mapW, Function.comp_def] using hvs)
  have hg : (getObj b).run P w = .ok (.map ents clock) w := by simp [getObj, Sem.run, hh]
  cases hl : getW l a with
  | some x =>
    rw [hl] at hf hK
    obtain ⟨j, v, hj, hr⟩ := hf
    refine ⟨.tuple #[v, .bool true], w, _, σ, ?_, .tup (.cons hr (.cons (.v _) .nil)), rel, Ext.refl _ _, hK⟩
    simp [Instr.lookup, run_underlying ht, hg, hk.chk, hj]
  | none =>
    rw [hl] at hf hK
    obtain ⟨v, hz, hr⟩ := he w σ
    refine ⟨.tuple #[v, .bool false], w, _, σ, ?_, .tup (.cons hr (.cons (.v _) .nil)), rel, Ext.refl _ _, hK⟩
    simp [Instr.lookup, run_underlying ht, hg, hk.chk, hf, hz]
theorem rlookB_way (ht : P.underlying t = some (.map k e)) (hk : WayKey P k) {z : AV} (he : ∀ (w : World) (σ : Sig), ∃ v, (zeroValue e).run P w = .ok v w ∧ Rep w σ z v) (hb : σ b = some (.map (mapW l)))
    (hK : match getW l a with | some x => K (.tup [x, .v (.bool true)]) σ | none => K (.tup [z, .v (.bool false)]) σ) : rlookB P Γ σ t true (.v (.map (some b))) (wayK a) K := by
  cases hl : getW l a with
  | some x =>
    rw [hl] at hK
    exact ⟨_, fun σ' hs K' hK' => lookB_way ht hk he (hs b _ hb) (by rw [hl]; exact hK'), hK⟩
  | none =>
    rw [hl] at hK
    exact ⟨_, fun σ' hs K' hK' => lookB_way ht hk he (hs b _ hb) (by rw [hl]; exact hK'), hK⟩
theorem mupB_way (ht : P.underlying t = some (.map k e)) (hk : WayKey P k) (hb : σ b = some (.map (mapW l))) (hn : getW l a = none) {x : AV}
    (hK : K (.v undef) (upd σ b (some (.map (mapW (l ++ [(a, x)])))))) : mupB P Γ σ t (.v (.map (some b))) (wayK a) x K := by
  intro w vs rel hv
  cases hv with | cons h1 hv => cases hv with | cons h2 hv => cases hv with | cons h3 hv => cases hv with | nil =>
  cases h1
  obtain rfl := rep_way h2
  rename_i v
  obtain ⟨hbl, ents, clock, hh, hks, hvs⟩ := rel.blk b _ hb
  have hf := find_way hk a l ents.toList (by simpa [mapW, Function.comp_def] using hks) (by simpa [mapW, Function.comp_def] using hvs)
  rw [hn] at hf
  have hg : (getObj b).run P w = .ok (.map ents clock) w := by simp [getObj, Sem.run, hh]
  let o : Obj := .map (ents.push { key := wayV a, val := v, born := clock }) (clock + 1)
  have hs : (setObj b o).run P w = .ok () (w.putObj b o) := by simp [setObj, Sem.run, hh, World.putObj, o]
  have hW : Wr w (w.putObj b o) b := ⟨World.putObj_size, fun k hk => World.putObj_heap_other hk, rfl, rfl, rfl⟩
  have eW := Ext.write (σ := σ) (x := .map (mapW (l ++ [(a, x)]))) hW ⟨_, hb, fun _ _ _ e => by cases e⟩
  have rW := rel.write (x := .map (mapW (l ++ [(a, x)]))) hW ⟨_, hb, fun _ _ _ e => by cases e⟩
    ⟨_, _, World.putObj_heap_same hbl, by
      have := (hks.ext eW).append (.cons (way_rep (k := a)) .nil)
      simpa [mapW, o] using this, by
      have := (hvs.ext eW).append (.cons (h3.ext eW) .nil)
      simpa [mapW, o] using this⟩
  refine ⟨undef, _, _, _, ?_, .v _, rW, eW, hK⟩
  simp [Instr.mapUpdate, run_underlying ht, hg, hk.chk, hf]
  simp [hs, o]
end
section
variable {P : Program} {t : TypeId} {f1 f2 : Field} {z1 z2 : List AV}
theorem eq_strW {w : World} {n : Nat} {a c : Int} {b d : Bool} (h : P.underlying t = some (.struct #[f1, f2])) (hs : P.stoodInHeld t = false)
    (hn1 : f1.name ≠ "_") (hn2 : f2.name ≠ "_") (ho1 : f1.offset = 0) (ho2 : f2.offset = 1) (hk1 : tkOf P f1.type = some ⟨false, 1, z1⟩) (hk2 : tkOf P f2.type = some ⟨false, 1, z2⟩)
    (hi1 : ∀ (a b : Int), (Op.equalIn n f1.type (.int .i64 a) (.int .i64 b)).run P w = .ok (a == b) w) (hi2 : ∀ (a b : Bool), (Op.equalIn n f2.type (.bool a) (.bool b)).run P w = .ok (a == b) w) :
    (Op.equalIn (n + 1) t (.agg #[.int .i64 a, .bool b]) (.agg #[.int .i64 c, .bool d])).run P w = .ok ((a == c) && (b == d)) w := by
  have hagg1 := run_isAgg_tk hk1
  have hagg2 := run_isAgg_tk hk2
  cases h1 : (a == c) <;> cases h2 : (b == d) <;>
    simp [Op.equalIn, run_underlying h, hs, hagg1, hagg2, part, hi1, hi2, h1, h2, hn1, hn2, ho1, ho2]
theorem chk_strW {w : World} {em : Bool} {n : Nat} {a : Int} {b : Bool} (h : P.underlying t = some (.struct #[f1, f2]))
    (hn1 : f1.name ≠ "_") (hn2 : f2.name ≠ "_") (ho1 : f1.offset = 0) (ho2 : f2.offset = 1) (hk1 : tkOf P f1.type = some ⟨false, 1, z1⟩) (hk2 : tkOf P f2.type = some ⟨false, 1, z2⟩)
    (hi1 : ∀ a : Int, (Instr.checkKey em n f1.type (.int .i64 a)).run P w = .ok () w) (hi2 : ∀ a : Bool, (Instr.checkKey em n f2.type (.bool a)).run P w = .ok () w) :
    (Instr.checkKey em (n + 1) t (.agg #[.int .i64 a, .bool b])).run P w = .ok () w := by
  have hagg1 := run_isAgg_tk hk1
  have hagg2 := run_isAgg_tk hk2
  simp [Instr.checkKey, run_underlying h, hagg1, hagg2, part, hi1, hi2, hn1, hn2, ho1, ho2]
theorem chk_int {w : World} {em : Bool} {n : Nat} {a : Int} (h : P.underlying t = some (.int .i64)) : (Instr.checkKey em (n + 1) t (.int .i64 a)).run P w = .ok () w := by simp [Instr.checkKey, run_underlying h]
theorem chk_bool {w : World} {em : Bool} {n : Nat} {a : Bool} (h : P.underlying t = some .bool) : (Instr.checkKey em (n + 1) t (.bool a)).run P w = .ok () w := by simp [Instr.checkKey, run_underlying h]
theorem wayKey (h : P.underlying t = some (.struct #[f1, f2])) (hs : P.stoodInHeld t = false)
    (hn1 : f1.name ≠ "_") (hn2 : f2.name ≠ "_") (ho1 : f1.offset = 0) (ho2 : f2.offset = 1) (hk1 : tkOf P f1.type = some ⟨false, 1, z1⟩) (hk2 : tkOf P f2.type = some ⟨false, 1, z2⟩)
    (he1 : P.underlying f1.type = some (.int .i64)) (he2 : P.underlying f2.type = some .bool) : WayKey P t := by
  refine ⟨⟨_, h⟩, fun w a b => ?_, fun w em a => chk_strW (n := 9999) h hn1 hn2 ho1 ho2 hk1 hk2 (fun a => chk_int (n := 9998) he1) (fun a => chk_bool (n := 9998) he2)⟩
  have e : decide (a = b) = ((a.1 == b.1) && (a.2 == b.2)) := by
    obtain ⟨i, x⟩ := a
    obtain ⟨j, y⟩ := b
    by_cases h1 : i = j <;> by_cases h2 : x = y <;> simp [h1, h2]
  rw [e]
  exact eq_strW (n := 9999) h hs hn1 hn2 ho1 ho2 hk1 hk2 (fun a b => run_equalIn_int w 9998 _ .i64 _ a b he1) (fun a b => run_equalIn_bool w 9998 _ a b he2)
end
theorem way229 : WayKey Tryz.prog 229 := wayKey (fieldsOf_some fs229) (by kernel_rfl) (by decide) (by decide) rfl rfl tk3 tk4 us3 us4
end Go.AL
