import Derived.Test.YtjimmpldofoimaaGreatDoorAlTy
import Derived.Test.YtjimmpldofoimaaGreatDoorAlWalk2
set_option linter.unusedVariables false
set_option linter.unusedSimpArgs false
namespace Go.AL
open Go.Proofs
theorem fnOk {p : Par} (hm : p.P.follows .mixedOrders = true) {i : Nat} {f : Func} {c : Code} {N : Nat} {rs : List ResultVar} {m : Nat} (h : p.P.funcs[i]? = some f) (h1 : f.body = some c) (h2 : f.ntmps = N) (h3 : f.results.toList = rs) (h4 : (f.name == "runtime.NumGoroutine") = false) (h5 : m ≤ N) (h6 : codeOk p N c = true) : FnOk p i N c rs m :=
 ⟨⟨f, h, h1, h2, h3, h4⟩, h5, h6, hm⟩
theorem upd_at {α : Type} (f : Nat → α) (k : Nat) (x : α) (i : Nat) : upd f k x i = if i = k then x else f i := rfl
theorem retPost_ret {P : Program} {rs : List ResultVar} {K : AV → Sig → Prop} {ρ : Env} {σ : Sig} : RetPost P rs K .ret ρ σ [] = optB (aresultsL P ρ σ rs) fun xs => K (oneOrTup xs) σ :=
 propext ⟨fun h => optB_iff.2 h.out, fun h => ⟨.inr rfl, by simp, by simp, optB_iff.1 h⟩⟩
theorem retPost_normal {P : Program} {rs : List ResultVar} {K : AV → Sig → Prop} {ρ : Env} {σ : Sig} : RetPost P rs K .normal ρ σ [] = optB (aresultsL P ρ σ rs) fun xs => K (oneOrTup xs) σ :=
 propext ⟨fun h => optB_iff.2 h.out, fun h => ⟨.inl rfl, by simp, by simp, optB_iff.1 h⟩⟩
def retP (σ : Sig) (r x : AV) (σ' : Sig) : Prop := Fz σ' σ x r ∧ Drop σ' σ
theorem retP_same {σ : Sig} {r : AV} : retP σ r r σ = True := propext ⟨fun _ => trivial, fun _ => ⟨.refl r, .refl σ⟩⟩
theorem retP_eq {σ : Sig} {r x : AV} (h : x = r) : retP σ r x σ := ⟨h ▸ .refl x, .refl σ⟩
theorem retP_congr {σ σ' : Sig} {r r' x x' : AV} (h : vis x = x') (h' : vis r = r') : retP σ r x σ' = retP σ r' x' σ' := by rw [← h, ← h']; rfl
def memN : List Nat → Nat → Bool
 | [], _ => false
 | a :: l, t => if t = a then true else memN l t
def mzOf (l : List Nat) : Option Tmp → Bool
 | none => false
 | some t => memN l t
def lookL {α : Type} : List (Nat × List α) → Nat → List α
 | [], _ => []
 | (k, l) :: r, i => if i = k then l else lookL r i
def LfM : TypeId → List LeafK := fun t => if t = 174 ∨ t = 234 ∨ t = 307 ∨ t = 91 ∨ t = 97 then [.int, .int] else []
section
variable (P : Program) (Γ : Glob) (mz : List Nat) (fl : List (Nat × List Bool)) (bf : List (Nat × List Nat))
def parG : Par := ⟨P, LfM, Γ, mzOf mz, lookL fl, lookL bf⟩
theorem par_P : (parG P Γ mz fl bf).P = P := rfl
theorem par_Γ : (parG P Γ mz fl bf).Γ = Γ := rfl
theorem par_Lf : (parG P Γ mz fl bf).Lf = LfM := rfl
theorem par_mz : (parG P Γ mz fl bf).mz = mzOf mz := rfl
theorem par_fl : (parG P Γ mz fl bf).fl = lookL fl := rfl
end
@[reducible] noncomputable def par (Γ : Glob) (mz : List Nat) (fl : List (Nat × List Bool)) (bf : List (Nat × List Nat)) : Par := parG Tryz.prog Γ mz fl bf
section
variable {P : Program} {Γ : Glob} {mz : List Nat} {fl : List (Nat × List Bool)} {bf : List (Nat × List Nat)} (hmx : P.follows .mixedOrders = true) {ro : Option Nat} {N : Nat} {Q : Post} {ρ : Env} {σ : Sig} {ds : List Nat} {c : Code}
include hmx
theorem SemC.loopK (n : Nat) (I : Nat → Env → Sig → List Nat → Prop) (hok : codeOk (parG P Γ mz fl bf) N c = true) (h0 : I 0 ρ σ ds)
  (round : ∀ k ρ σ ds, k ≤ n → I k ρ σ ds → codeW (parG P Γ mz fl bf) ro N c (athen (fun ρ' σ' ds' => k < n ∧ I (k + 1) ρ' σ' ds') Q) ρ σ ds) : SemC (parG P Γ mz fl bf) ro N (.loop c) Q ρ σ ds := by
 refine .loop (fun m ρ σ ds => ∃ k, k ≤ n ∧ m = n - k ∧ I k ρ σ ds) n ⟨0, Nat.zero_le _, rfl, h0⟩ fun m ρ σ ds ⟨k, hk, hm, hI⟩ => ?_
 refine (codeW_sound (p := parG P Γ mz fl bf) hmx c _ ρ σ ds hok (round k ρ σ ds hk hI)).mono fun e ρ' σ' ds' h => ?_
 cases e with
 | normal => exact ⟨n - (k + 1), by have := h.1; omega, k + 1, h.1, rfl, h.2⟩
 | _ => exact h
theorem SemC.loopS {α : Type} (I : α → Env → Sig → List Nat → Prop) (μ : α → Nat) (s : α) (hok : codeOk (parG P Γ mz fl bf) N c = true) (h0 : I s ρ σ ds)
  (round : ∀ s ρ σ ds, I s ρ σ ds → codeW (parG P Γ mz fl bf) ro N c (athen (fun ρ' σ' ds' => ∃ s', μ s' < μ s ∧ I s' ρ' σ' ds') Q) ρ σ ds) : SemC (parG P Γ mz fl bf) ro N (.loop c) Q ρ σ ds := by
 refine .loop (fun m ρ σ ds => ∃ s, m = μ s ∧ I s ρ σ ds) (μ s) ⟨s, rfl, h0⟩ fun m ρ σ ds ⟨s, hm, hI⟩ => ?_
 refine (codeW_sound (p := parG P Γ mz fl bf) hmx c _ ρ σ ds hok (round s ρ σ ds hI)).mono fun e ρ' σ' ds' h => ?_
 cases e with
 | normal => obtain ⟨s', h1, h2⟩ := h; exact ⟨μ s', by omega, s', rfl, h2⟩
 | _ => exact h
end
theorem mixed : Tryz.prog.follows .mixedOrders = true := by kernel_rfl
theorem par_mixed (Γ : Glob) (mz : List Nat) (fl : List (Nat × List Bool)) (bf : List (Nat × List Nat)) : (par Γ mz fl bf).P.follows .mixedOrders = true := by kernel_rfl
theorem pcalls {P : Program} {Γ : Glob} {mz : List Nat} {fl : List (Nat × List Bool)} {bf : List (Nat × List Nat)} {f : FuncId} {N : Nat} {c : Code} {rs : List ResultVar} {args : List AV} {r : AV} (hf : FnOk (parG P Γ mz fl bf) f N c rs args.length)
  (h : ∀ σ, codeW (parG P Γ mz fl bf) none N c (RetPost P rs (retP σ r)) (envOf args) σ []) : PCalls P Γ f args r :=
 pcalls_of_sem hf fun σ => codeW_sound hf.mixed _ _ _ _ _ hf.ok (h σ)
theorem acalls {P : Program} {Γ : Glob} {mz : List Nat} {fl : List (Nat × List Bool)} {bf : List (Nat × List Nat)} {f : FuncId} {N : Nat} {c : Code} {rs : List ResultVar} {args : List AV} {σ : Sig} {K : AV → Sig → Prop} (hf : FnOk (parG P Γ mz fl bf) f N c rs args.length)
  (h : codeW (parG P Γ mz fl bf) none N c (RetPost P rs K) (envOf args) σ []) : ACalls P Γ f args σ K :=
 acalls_of_sem hf (codeW_sound hf.mixed _ _ _ _ _ hf.ok h)
theorem wrap_nat (n : Nat) (h : n ≤ 9223372036854775807) : IntKind.i64.wrap (n : Int) = n := IntWalk.i64_in _ ⟨by omega, by omega⟩
theorem wrap_i64 (n : Int) (h1 : -9223372036854775808 ≤ n) (h2 : n ≤ 9223372036854775807) : IntKind.i64.wrap n = n := IntWalk.i64_in _ ⟨h1, h2⟩
theorem SemC_congr {p : Par} {ro : Option Nat} {N : Nat} {c : Code} {Q : Post} {ρ : Env} {σ : Sig} {ds : List Nat} {m : Prop} (hm : Mk = m) : SemC p ro N c Q ρ σ ds = SemC p ro N c Q ρ σ ds := rfl
attribute [congr] blkB_congr strB_congr xcallB_congr rlookB_congr lookB_congr mupB_congr frzB_congr flB_congr letB_congr optB_congr ifB_congr andB_congr newB_congr appB_congr copB_congr callB_congr rcallB_congr ocallB_congr rappB_congr dcallB_congr SemC_congr retP_congr
theorem athen_normal (n : Env → Sig → List Nat → Prop) (Q : Post) (ρ : Env) (σ : Sig) (ds : List Nat) : athen n Q .normal ρ σ ds = n ρ σ ds := propext Iff.rfl
theorem athen_exit (n : Env → Sig → List Nat → Prop) (Q : Post) (id : Nat) (ρ : Env) (σ : Sig) (ds : List Nat) : athen n Q (.exit id) ρ σ ds = Q (.exit id) ρ σ ds := propext Iff.rfl
theorem athen_ret (n : Env → Sig → List Nat → Prop) (Q : Post) (ρ : Env) (σ : Sig) (ds : List Nat) : athen n Q .ret ρ σ ds = Q .ret ρ σ ds := propext Iff.rfl
theorem ablock_normal (id : Nat) (Q : Post) (ρ : Env) (σ : Sig) (ds : List Nat) : ablock id Q .normal ρ σ ds = Q .normal ρ σ ds := propext Iff.rfl
theorem ablock_exit (id id' : Nat) (Q : Post) (ρ : Env) (σ : Sig) (ds : List Nat) : ablock id Q (.exit id') ρ σ ds = if id' = id then Q .normal ρ σ ds else Q (.exit id') ρ σ ds := propext Iff.rfl
theorem ablock_ret (id : Nat) (Q : Post) (ρ : Env) (σ : Sig) (ds : List Nat) : ablock id Q .ret ρ σ ds = Q .ret ρ σ ds := propext Iff.rfl
theorem anoGoto_ret (Q : Post) (ρ : Env) (σ : Sig) (ds : List Nat) : anoGoto Q .ret ρ σ ds = Q .ret ρ σ ds := propext Iff.rfl
theorem nr {α : Sort _} {a b : α} (h : a = b) : a = b := Eq.subst (motive := fun y => a = y) h rfl
theorem aput_at (ρ : Env) (d : Nat) (x : AV) (t : Nat) : aput ρ (some d) x t = if t = d then x else ρ t := nr rfl
theorem aput_nat (ρ : Env) (x : AV) (t : Nat) : aput ρ none x t = ρ t := nr rfl
theorem upd_at' {α : Type} (f : Nat → α) (k : Nat) (x : α) (i : Nat) : upd f k x i = if i = k then x else f i := nr rfl
theorem aput_some (ρ : Env) (d : Nat) (x : AV) : aput ρ (some d) x = upd ρ d x := nr rfl
theorem aput_none (ρ : Env) (x : AV) : aput ρ none x = ρ := nr rfl
theorem aev_tmp (Γ : Glob) (ρ : Env) (t : Nat) : aev Γ ρ (.tmp t) = ρ t := nr rfl
theorem aev_const (Γ : Glob) (ρ : Env) (v : Value) : aev Γ ρ (.const v) = ofV v := nr rfl
theorem aev_func (Γ : Glob) (ρ : Env) (f : Nat) : aev Γ ρ (.func f) = .fn (.func f) [] [] := nr rfl
def globA (o : Option (List AV)) (g : Nat) : AV := match o with | some cs => .pp cs 0 | none => .v (.pointer (some ⟨g, 0, none⟩))
theorem globA_some (cs : List AV) (g : Nat) : globA (some cs) g = .pp cs 0 := nr rfl
theorem aev_glob (Γ : Glob) (ρ : Env) (g : Nat) : aev Γ ρ (.global g) = globA (Γ g) g := nr rfl
theorem ofV_int (k : IntKind) (n : Int) : ofV (.int k n) = .v (.int k n) := nr rfl
theorem ofV_bool (b : Bool) : ofV (.bool b) = .v (.bool b) := nr rfl
theorem ofV_string (b : ByteArray) : ofV (.string b) = .v (.string b) := nr rfl
theorem ofV_slice (a : Option Addr) (n c : Nat) : ofV (.slice a n c) = .v (.slice a n c) := nr rfl
theorem ofV_nilFunc : ofV .nilFunc = .v .nilFunc := nr rfl
theorem envOf_zero (a : AV) (l : List AV) : envOf (a :: l) 0 = a := nr rfl
theorem envOf_succ (a : AV) (l : List AV) (t : Nat) : envOf (a :: l) (t + 1) = envOf l t := nr rfl
theorem res_nil (P : Program) (ρ : Env) (σ : Sig) : aresultsL P ρ σ [] = some [] := nr rfl
theorem res_cons (P : Program) (ρ : Env) (σ : Sig) (x : ResultVar) (xs : List ResultVar) : aresultsL P ρ σ (x :: xs) = match aresult P ρ σ x, aresultsL P ρ σ xs with | some a, some bs => some (a :: bs) | _, _ => none := nr rfl
theorem res_tmp (P : Program) (ρ : Env) (σ : Sig) (t : Nat) : aresult P ρ σ (.tmp t) = some (ρ t) := nr rfl
theorem res_cell (P : Program) (ρ : Env) (σ : Sig) (a : Nat) (t : TypeId) : aresult P ρ σ (.cell a t) =
  match ρ a, tkOf P t with
  | .v (.pointer (some ⟨b, off, none⟩)), some k =>
   match σ b with
   | some (.row cs _ _) => k.part cs off
   | _ => none
  | .pp cs off, some k => k.part cs off
  | _, _ => none := nr rfl
theorem one_1 (a : AV) : oneOrTup [a] = a := nr rfl
theorem one_0 : oneOrTup [] = .tup [] := nr rfl
theorem one_2 (a b : AV) (l : List AV) : oneOrTup (a :: b :: l) = .tup (a :: b :: l) := nr rfl
theorem part_t (s : Nat) (z : List AV) (cs : List AV) (off : Nat) : TK.part ⟨true, s, z⟩ cs off = if off + s ≤ cs.length then some (.agg ((cs.drop off).take s)) else none := nr rfl
theorem part_f (s : Nat) (z : List AV) (cs : List AV) (off : Nat) : TK.part ⟨false, s, z⟩ cs off = cs[off]? := nr rfl
theorem rowOf_row (cs : List AV) (s c : Nat) : rowOf (some (.row cs s c)) = some (cs, s, c, false) := nr rfl
theorem mkB_f (cs cs' : List AV) (s c : Nat) : mkB cs (cs', s, c, false) = .row cs s c := nr rfl
theorem iterOf_it (s : ByteArray) (n : Nat) : iterOf (some (.obj (.stringIter s n))) = some (s, n) := nr rfl
theorem cells_agg (cs : List AV) : (AV.agg cs).cells? = some cs := nr rfl
theorem cells_sl (cs : List AV) (n : Nat) : (AV.sl cs n).cells? = some [.sl cs n] := nr rfl
theorem cells_own (b s o n : Nat) : (AV.own b s o n).cells? = some [.own b s o n] := nr rfl
theorem cells_int (k : IntKind) (n : Int) : (AV.v (.int k n)).cells? = some [.v (.int k n)] := nr rfl
theorem cells_bool (b : Bool) : (AV.v (.bool b)).cells? = some [.v (.bool b)] := nr rfl
theorem cells_string (b : ByteArray) : (AV.v (.string b)).cells? = some [.v (.string b)] := nr rfl
theorem cells_slice (a : Option Addr) (n c : Nat) : (AV.v (.slice a n c)).cells? = some [.v (.slice a n c)] := nr rfl
theorem cells_pointer (a : Option Addr) : (AV.v (.pointer a)).cells? = some [.v (.pointer a)] := nr rfl
theorem cells_map (a : Option Nat) : (AV.v (.map a)).cells? = some [.v (.map a)] := nr rfl
theorem fillA_nil (pl : Nat → Option (Nat × Nat)) (cs : List AV) : fillA pl cs [] = some cs := nr rfl
theorem fillA_cons (pl : Nat → Option (Nat × Nat)) (cs : List AV) (i : Nat) (x : AV) (r : List (Nat × AV)) : fillA pl cs ((i, x) :: r) =
  match pl i, x.cells? with
  | some (off, size), some xs => if xs.length = size ∧ off + size ≤ cs.length then fillA pl (putL cs off xs) r else none
  | _, _ => none := nr rfl
theorem putL_eq {α : Type} (l : List α) (k : Nat) (xs : List α) : putL l k xs = l.take k ++ xs ++ l.drop (k + xs.length) := nr rfl
theorem bnd_none (ev : Operand → AV) (d : Int) : bnd ev d none = some d := nr rfl
theorem bnd_some (ev : Operand → AV) (d : Int) (o : Operand) : bnd ev d (some o) = match ev o with | .v (.int _ n) => some n | _ => none := nr rfl
theorem litA_0 (cs : List AV) : litA cs 0 = .e0 := nr rfl
theorem litA_s (cs : List AV) (n : Nat) : litA cs (n + 1) = .sl cs (n + 1) := nr rfl
theorem mz_some (l : List Nat) (t : Nat) : mzOf l (some t) = memN l t := nr rfl
theorem mem_nil (t : Nat) : memN [] t = false := nr rfl
theorem mem_cons (a : Nat) (l : List Nat) (t : Nat) : memN (a :: l) t = if t = a then true else memN l t := nr rfl
theorem look_nil {α : Type} (i : Nat) : lookL ([] : List (Nat × List α)) i = [] := nr rfl
theorem look_cons {α : Type} (k : Nat) (l : List α) (r : List (Nat × List α)) (i : Nat) : lookL ((k, l) :: r) i = if i = k then l else lookL r i := nr rfl
section
variable {p : Par} {all rest : List Oper} {d : Option Tmp} {op : Op} {ty : TypeId} {ps : String} {af : Array Edge} {g : Option (Nat × Bool)} {fl : List Bool} {K : Env → Sig → Prop} {ρ : Env} {σ : Sig}
variable {P : Program} {Γ : Glob} {mz : List Nat} {fs : List (Nat × List Bool)} {bf : List (Nat × List Nat)}
theorem opsW_nil : opsW p all [] K ρ σ = K ρ σ := propext Iff.rfl
theorem opsW_cons : opsW (parG P Γ mz fs bf) all (⟨d, op, ty, ps, af, g⟩ :: rest) K ρ σ = guardW all g ρ (fun ρ => aopW P LfM Γ (!mzOf mz d) (aev Γ ρ) σ op fun r σ' => letB r fun r => opsW (parG P Γ mz fs bf) all rest K (aput ρ d r) σ')
   (fun ρ => opsW (parG P Γ mz fs bf) all rest K (aput ρ d (.v undef)) σ) := propext Iff.rfl
theorem dopsW_nil {xl : List Bool} : dopsW p all [] fl xl K ρ σ = K ρ σ := propext Iff.rfl
theorem dopsW_consN : dopsW (parG P Γ mz fs bf) all (⟨d, op, ty, ps, af, g⟩ :: rest) [] [] K ρ σ = guardW all g ρ (fun ρ => aopDW (parG P Γ mz fs bf) false (!mzOf mz d) (aev Γ ρ) σ op fun r σ' => letB r fun r => dopsW (parG P Γ mz fs bf) all rest [] [] K (aput ρ d r) σ')
   (fun ρ => dopsW (parG P Γ mz fs bf) all rest [] [] K (aput ρ d (.v undef)) σ) := propext Iff.rfl
theorem dopsW_consNxF {xl : List Bool} : dopsW (parG P Γ mz fs bf) all (⟨d, op, ty, ps, af, g⟩ :: rest) [] (false :: xl) K ρ σ = guardW all g ρ (fun ρ => aopDW (parG P Γ mz fs bf) false (!mzOf mz d) (aev Γ ρ) σ op fun r σ' => letB r fun r => dopsW (parG P Γ mz fs bf) all rest [] xl K (aput ρ d r) σ')
   (fun ρ => dopsW (parG P Γ mz fs bf) all rest [] xl K (aput ρ d (.v undef)) σ) := propext Iff.rfl
theorem dopsW_consNxT {xl : List Bool} : dopsW (parG P Γ mz fs bf) all (⟨d, op, ty, ps, af, g⟩ :: rest) [] (true :: xl) K ρ σ = guardW all g ρ (fun ρ => aopXW (parG P Γ mz fs bf) false true (!mzOf mz d) (aev Γ ρ) σ op fun r σ' => letB r fun r => dopsW (parG P Γ mz fs bf) all rest [] xl K (aput ρ d r) σ')
   (fun ρ => dopsW (parG P Γ mz fs bf) all rest [] xl K (aput ρ d (.v undef)) σ) := propext Iff.rfl
theorem dopsW_consF : dopsW (parG P Γ mz fs bf) all (⟨d, op, ty, ps, af, g⟩ :: rest) (false :: fl) [] K ρ σ = guardW all g ρ (fun ρ => aopDW (parG P Γ mz fs bf) false (!mzOf mz d) (aev Γ ρ) σ op fun r σ' => letB r fun r => dopsW (parG P Γ mz fs bf) all rest fl [] K (aput ρ d r) σ')
   (fun ρ => dopsW (parG P Γ mz fs bf) all rest fl [] K (aput ρ d (.v undef)) σ) := propext Iff.rfl
theorem dopsW_consT : dopsW (parG P Γ mz fs bf) all (⟨d, op, ty, ps, af, g⟩ :: rest) (true :: fl) [] K ρ σ = guardW all g ρ (fun ρ => aopDW (parG P Γ mz fs bf) true (!mzOf mz d) (aev Γ ρ) σ op fun r σ' => letB r fun r => dopsW (parG P Γ mz fs bf) all rest fl [] K (aput ρ d r) σ')
   (fun ρ => dopsW (parG P Γ mz fs bf) all rest fl [] K (aput ρ d (.v undef)) σ) := propext Iff.rfl
theorem guardW_none {run skip : Env → Prop} : guardW all none ρ run skip = run ρ := propext Iff.rfl
section
variable {P : Program} {Lf : TypeId → List LeafK} {Γ : Glob} {pu : Bool} {ev : Operand → AV} {K : AV → Sig → Prop} {s x f : Operand} {t0 t1 : TypeId} {args : Array Operand} {ts : Array TypeId}
theorem aopW_append : aopW P Lf Γ pu ev σ (.call ⟨.builtin .append, #[s, x], #[t0, t1]⟩) K = appB P Γ σ t0 t1 (ev s) (ev x) K := propext Iff.rfl
theorem aopW_copy : aopW P Lf Γ pu ev σ (.call ⟨.builtin .copy, #[s, x], #[t0, t1]⟩) K = copB P Γ σ t0 t1 (ev s) (ev x) K := propext Iff.rfl
theorem aopW_call : aopW P Lf Γ pu ev σ (.call ⟨.value f, args, ts⟩) K = callB P Γ (ev f) (args.toList.map ev) σ K := propext Iff.rfl
theorem aopW_lookup {m k : Operand} {ok : Bool} : aopW P Lf Γ pu ev σ (.lookup t0 m k ok) K = lookB P Γ σ t0 ok (ev m) (ev k) K := propext Iff.rfl
theorem aopW_mapUpdate {m k : Operand} : aopW P Lf Γ pu ev σ (.mapUpdate t0 m k x) K = mupB P Γ σ t0 (ev m) (ev k) (ev x) K := propext Iff.rfl
theorem aopW_len : aopW P Lf Γ pu ev σ (.call ⟨.builtin .len, #[x], #[t0]⟩) K =
   match ev x with
   | .sl _ n => optB (elemOf P t0) fun e => andB (e.1 = none) (K (.v (.int .i64 n)) σ)
   | .own _ _ _ n => optB (elemOf P t0) fun e => andB (e.1 = none) (K (.v (.int .i64 n)) σ)
   | .v (.slice none 0 0) => optB (elemOf P t0) fun e => andB (e.1 = none) (K (.v (.int .i64 0)) σ)
   | .v (.slice (some _) n _) => optB (elemOf P t0) fun e => andB (e.1 = none) (K (.v (.int .i64 n)) σ)
   | .e0 => optB (elemOf P t0) fun e => andB (e.1 = none) (K (.v (.int .i64 0)) σ)
   | .v (.string s) => andB (P.underlying t0 = some .string) (K (.v (.int .i64 s.size)) σ)
   | _ => False := propext Iff.rfl
theorem aopW_min : aopW P Lf Γ pu ev σ (.call ⟨.builtin .min, #[s, x], ts⟩) K = match ev s, ev x with | .v (.int k a), .v (.int _ b) => K (.v (.int k (if b < a then b else a))) σ | _, _ => False := propext Iff.rfl
theorem aopW_max : aopW P Lf Γ pu ev σ (.call ⟨.builtin .max, #[s, x], ts⟩) K = match ev s, ev x with | .v (.int k a), .v (.int _ b) => K (.v (.int k (if a < b then b else a))) σ | _, _ => False := propext Iff.rfl
theorem allocB_eq (t : TypeId) (k : TK) : allocB t k = if t = 286 then .var k.zero t else .row k.zero k.zero.length 1 := nr rfl
theorem aopDW_rlook {m k : Operand} {ok : Bool} : aopDW (parG P Γ mz fs bf) true pu ev σ (.lookup t0 m k ok) K = rlookB P Γ σ t0 ok (ev m) (ev k) K := propext Iff.rfl
theorem aopXW_load {f : Bool} : aopXW (parG P Γ mz fs bf) f true pu ev σ (.load t0 x) K = match ev x with
   | .v (.pointer (some ⟨b, off, none⟩)) => optB (tkOf P t0) fun k => optB (rowOf (σ b)) fun q => andB (q.2.1 = 1) (optB (k.part q.1 off) fun r => K r σ)
   | _ => False := propext Iff.rfl
theorem aopXW_call {fl : Bool} {cf : Operand} {args : Array Operand} {ts : Array TypeId} : aopXW (parG P Γ mz fs bf) fl true pu ev σ (.call ⟨.value cf, args, ts⟩) K = xcallB P Γ (ev cf) (args.toList.map ev) σ K := propext Iff.rfl
theorem aopDW_load : aopDW (parG P Γ mz fs bf) true pu ev σ (.load t0 x) K = match ev x with
   | .pp cs off => optB (tkOf P t0) fun k => optB (k.part cs off) fun r => K r σ
   | _ => False := propext Iff.rfl
end
variable {ro : Option Nat} {N : Nat} {Q : Post} {ds : List Nat} {a b : Code} {c f : Operand} {id : Nat} {ops : Array Oper} {pa : Array Tmp}
theorem codeW_skip : codeW p ro N .skip Q ρ σ ds = Q .normal ρ σ ds := propext Iff.rfl
theorem codeW_label : codeW p ro N (.label id) Q ρ σ ds = Q .normal ρ σ ds := propext Iff.rfl
theorem codeW_draw : codeW (parG P Γ mz fs bf) ro N (.region id ops true) Q ρ σ ds = frzB (lookL fs (id + 1000000)) ρ σ fun ρ σ => flB (lookL fs id) fun fl => flB (lookL fs (id + 2000000)) fun xl => dopsW (parG P Γ mz fs bf) ops.toList ops.toList fl xl (fun ρ σ => Q .normal ρ σ ds) ρ σ := propext Iff.rfl
theorem frzB_nil {K : Env → Sig → Prop} : frzB [] ρ σ K = K ρ σ := propext Iff.rfl
theorem codeW_region : codeW (parG P Γ mz fs bf) ro N (.region id ops false) Q ρ σ ds = frzB (lookL fs (id + 1000000)) ρ σ fun ρ σ => opsW (parG P Γ mz fs bf) ops.toList ops.toList (fun ρ σ => Q .normal ρ σ ds) ρ σ := propext Iff.rfl
theorem codeW_seq : codeW p ro N (.seq a b) Q ρ σ ds = codeW p ro N a (athen (codeW p ro N b Q) Q) ρ σ ds := propext Iff.rfl
theorem codeW_cond : codeW (parG P Γ mz fs bf) ro N (.cond c a b) Q ρ σ ds = match aev Γ ρ c with
  | .v (.bool t) => ifB t (codeW (parG P Γ mz fs bf) ro N a Q ρ σ ds) (codeW (parG P Γ mz fs bf) ro N b Q ρ σ ds)
  | _ => False := propext Iff.rfl
theorem codeW_block : codeW p ro N (.block id a) Q ρ σ ds = codeW p ro N a (ablock id Q) ρ σ ds := propext Iff.rfl
theorem codeW_scope : codeW p ro N (.scope a) Q ρ σ ds = codeW p ro N a (anoGoto Q) ρ σ ds := propext Iff.rfl
theorem codeW_loop : codeW p ro N (.loop a) Q ρ σ ds = SemC p ro N (.loop a) Q ρ σ ds := propext Iff.rfl
theorem codeW_range : codeW p ro N (.rangeFunc f pa a b) Q ρ σ ds = SemC p ro N (.rangeFunc f pa a b) Q ρ σ ds := propext Iff.rfl
theorem codeW_exit : codeW p ro N (.exit id) Q ρ σ ds = Q (.exit id) ρ σ ds := propext Iff.rfl
theorem codeW_ret : codeW p ro N .ret Q ρ σ ds = Q .ret ρ σ ds := propext Iff.rfl
end
attribute [go_sem ↓] athen_normal athen_exit athen_ret ablock_normal ablock_exit ablock_ret anoGoto_ret codeW_skip codeW_label codeW_draw frzB_nil aopW_lookup aopDW_rlook aopW_mapUpdate codeW_region codeW_seq codeW_cond codeW_block codeW_scope codeW_loop codeW_range codeW_exit codeW_ret opsW_nil opsW_cons dopsW_nil dopsW_consN dopsW_consNxF dopsW_consNxT dopsW_consF dopsW_consT aopXW_load aopXW_call guardW_none guardW aopDW_load aopW_append aopW_copy aopW_call aopW_len aopW_min aopW_max allocB_eq dopW binW optB_some ifB_true ifB_false andB_true retPost_ret retPost_normal upd_at' aput_at aput_nat aev_tmp mz_some mem_nil mem_cons look_nil look_cons aev_const aev_func aev_glob
attribute [go_sem ↓] List.getElem?_cons_succ List.getElem?_cons_zero Option.bind_some
attribute [go_sem ↓] litA_0 litA_s vis_eq envOf_zero envOf_succ part_f res_nil res_cons res_tmp res_cell fillA_nil fillA_cons
attribute [go_sem ↓ low] aopW aopDW part_t
attribute [go_sem] upd_upd blkB_eq flB_eq letB_eq List.replicate_succ List.replicate_zero List.flatten_cons List.flatten_nil List.cons_append List.nil_append List.append_nil List.take_succ_cons List.take_zero List.drop_succ_cons List.drop_zero List.length_cons List.length_nil ne_eq not_false_eq_true not_true_eq_false Nat.one_ne_zero List.map_cons List.map_nil List.headD_cons List.headD_nil List.tail_cons List.tail_nil
attribute [go_sem] Option.getD_some Mk_true aput_some aput_none ofV_int ofV_bool ofV_string ofV_slice ofV_nilFunc one_0 one_1 one_2 retP_same par_P par_Γ par_Lf par_mz par_fl rowOf_row mkB_f iterOf_it cells_agg cells_sl cells_own cells_int cells_bool cells_string cells_slice cells_pointer cells_map putL_eq bnd_none bnd_some globA_some
attribute [go_sem] Nat.reduceEqDiff Nat.reduceAdd Nat.reduceMul Nat.reduceLeDiff Int.reduceLT Int.reduceLE Int.reduceToNat
attribute [go_sem ↓] reduceIte
end Go.AL
