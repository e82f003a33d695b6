/-
  NARROWER THAN 'FOR EVERY INPUT', by the rows' own cells (each row's printed sentence says how): ProveChecks: laid · ProveSearches: laid · FormulaHolds: laid · FormulaCases: laid · FormulaPuts: laid · FormulaRanges: laid · FormulaJoins: laid · FormulaTerms: laid · ProveModels: laid · ProveTrue: laid · FormulaMeans: laid · ProveFinds: laid · ProveNever: laid · ProveFormulas: laid · ProveStrings: laid · FormulaStrings: laid · FormulaMoves: laid.
  DERIVED. THE GIVEN ROWS OF THIS SEAT. 17 by the template 'for every input the law returns true; each argument reads behind the call as it read before'; 0 by the template 'total and deterministic' (their statements: YtjimmpldofoimaaGreatDoorTotals.lean).
  GIVEN WITH THE SEED: the statements are not yours to turn. If you find one false, say at which input.
  Laid BY PROGRAM, IN A SANDBOX (cutbox-rows.mjs): the forced cells as the released guide's own fill.sh prints them over the translation 476b27ab10a2b6d5… (all of the seat's roots in one cut). By AI agents, Wed Nov 11 2026. No macro, syntax, notation, axiom, sorry.
-/
import Derived.Test.YtjimmpldofoimaaGreatDoorChecked
import GoSem.PinnedTables
import GoSem.Claim
import GoSem.ClaimJoined
import GoSem.ClaimMapViews
import Derived.JoinedTies
import Derived.KernelRfl
namespace Go.Proofs.YtjimmpldofoimaaGreatDoor
/- THE CELL 'sum', in the pinned program and in every row, IS THE sha256 OF THE DUMP (.gsa) THAT YtjimmpldofoimaaGreatDoorProg.lean LOADS. Nothing in Lean hashes anything: it is a label: what it is worth is what the hold of that sum in a sandbox is worth. -/
noncomputable def Tryz.pinned : Pinned := { name := "ytjimmpldofoimaagreatdoor", sum := "476b27ab10a2b6d5190926872f83e69ef2e1def4d30331577d3fc09c572f2dcc", checked := Tryz.checked }
namespace Rows
def none {H : Type} : Left H := { results := [], args := [] }

/- WHAT THE LISTED PACKAGE-LEVEL VARIABLES READ AS WHEN THE CALL BEGINS. Each datum BY PROGRAM (the guide's laid-datum.mjs) off the statement by which the dump's own 'gosem.cut.vars' lays the variable. In a bare row this is a premise. The card (YtjimmpldofoimaaGreatDoorCards.lean) ties it to the program's text. -/
def laid_math_bits_deBruijn32tab {H : Type} : DataW H := .agg [.lit (.int .u8 0), .lit (.int .u8 1), .lit (.int .u8 28), .lit (.int .u8 2), .lit (.int .u8 29), .lit (.int .u8 14), .lit (.int .u8 24), .lit (.int .u8 3), .lit (.int .u8 30), .lit (.int .u8 22), .lit (.int .u8 20), .lit (.int .u8 15), .lit (.int .u8 25), .lit (.int .u8 17), .lit (.int .u8 4), .lit (.int .u8 8), .lit (.int .u8 31), .lit (.int .u8 27), .lit (.int .u8 13), .lit (.int .u8 23), .lit (.int .u8 21), .lit (.int .u8 19), .lit (.int .u8 16), .lit (.int .u8 7), .lit (.int .u8 26), .lit (.int .u8 12), .lit (.int .u8 18), .lit (.int .u8 6), .lit (.int .u8 11), .lit (.int .u8 5), .lit (.int .u8 10), .lit (.int .u8 9)]
def laid_math_bits_deBruijn64tab {H : Type} : DataW H := .agg [.lit (.int .u8 0), .lit (.int .u8 1), .lit (.int .u8 56), .lit (.int .u8 2), .lit (.int .u8 57), .lit (.int .u8 49), .lit (.int .u8 28), .lit (.int .u8 3), .lit (.int .u8 61), .lit (.int .u8 58), .lit (.int .u8 42), .lit (.int .u8 50), .lit (.int .u8 38), .lit (.int .u8 29), .lit (.int .u8 17), .lit (.int .u8 4), .lit (.int .u8 62), .lit (.int .u8 47), .lit (.int .u8 59), .lit (.int .u8 36), .lit (.int .u8 45), .lit (.int .u8 43), .lit (.int .u8 51), .lit (.int .u8 22), .lit (.int .u8 53), .lit (.int .u8 39), .lit (.int .u8 33), .lit (.int .u8 30), .lit (.int .u8 24), .lit (.int .u8 18), .lit (.int .u8 12), .lit (.int .u8 5), .lit (.int .u8 63), .lit (.int .u8 55), .lit (.int .u8 48), .lit (.int .u8 27), .lit (.int .u8 60), .lit (.int .u8 41), .lit (.int .u8 37), .lit (.int .u8 16), .lit (.int .u8 46), .lit (.int .u8 35), .lit (.int .u8 44), .lit (.int .u8 21), .lit (.int .u8 52), .lit (.int .u8 32), .lit (.int .u8 23), .lit (.int .u8 11), .lit (.int .u8 54), .lit (.int .u8 26), .lit (.int .u8 40), .lit (.int .u8 15), .lit (.int .u8 34), .lit (.int .u8 20), .lit (.int .u8 31), .lit (.int .u8 10), .lit (.int .u8 25), .lit (.int .u8 14), .lit (.int .u8 19), .lit (.int .u8 9), .lit (.int .u8 13), .lit (.int .u8 8), .lit (.int .u8 7), .lit (.int .u8 6)]
def laid_internal_strconv_uint64pow10 {H : Type} : DataW H := .agg [.lit (.int .u64 1), .lit (.int .u64 10), .lit (.int .u64 100), .lit (.int .u64 1000), .lit (.int .u64 10000), .lit (.int .u64 100000), .lit (.int .u64 1000000), .lit (.int .u64 10000000), .lit (.int .u64 100000000), .lit (.int .u64 1000000000), .lit (.int .u64 10000000000), .lit (.int .u64 100000000000), .lit (.int .u64 1000000000000), .lit (.int .u64 10000000000000), .lit (.int .u64 100000000000000), .lit (.int .u64 1000000000000000), .lit (.int .u64 10000000000000000), .lit (.int .u64 100000000000000000), .lit (.int .u64 1000000000000000000), .lit (.int .u64 10000000000000000000)]
def laid_bailment_prove_none {H : Type} : DataW H := .agg [.lit (.int .i64 0), .lit (.int .i64 0)]
def laid_bailment_prove_kinds {H : Type} : DataW H := .iface "func table" (.agg [.agg [.lit (.string [108, 101, 97, 102]), .iface "func" (.lit (.string [98, 97, 105, 108, 109, 101, 110, 116, 47, 112, 114, 111, 118, 101, 46, 107, 105, 110, 100, 115, 36, 49])), .iface "func" (.lit (.string [98, 97, 105, 108, 109, 101, 110, 116, 47, 112, 114, 111, 118, 101, 46, 107, 105, 110, 100, 115, 36, 50]))], .agg [.lit (.string [115, 112, 108, 105, 116]), .iface "func" (.lit (.string [98, 97, 105, 108, 109, 101, 110, 116, 47, 112, 114, 111, 118, 101, 46, 107, 105, 110, 100, 115, 36, 51])), .iface "func" (.lit (.string [98, 97, 105, 108, 109, 101, 110, 116, 47, 112, 114, 111, 118, 101, 46, 107, 105, 110, 100, 115, 36, 52]))]])
def laid_bailment_formula_sorts {H : Type} : DataW H := .iface "func table" (.agg [.agg [.lit (.string [103, 101]), .lit (.bool true), .nil], .agg [.lit (.string [101, 113]), .lit (.bool true), .nil], .agg [.lit (.string [110, 111, 116]), .lit (.bool false), .iface "func" (.lit (.string [98, 97, 105, 108, 109, 101, 110, 116, 47, 102, 111, 114, 109, 117, 108, 97, 46, 115, 111, 114, 116, 115, 36, 49]))], .agg [.lit (.string [97, 110, 100]), .lit (.bool false), .iface "func" (.lit (.string [98, 97, 105, 108, 109, 101, 110, 116, 47, 102, 111, 114, 109, 117, 108, 97, 46, 115, 111, 114, 116, 115, 36, 50]))], .agg [.lit (.string [111, 114]), .lit (.bool false), .iface "func" (.lit (.string [98, 97, 105, 108, 109, 101, 110, 116, 47, 102, 111, 114, 109, 117, 108, 97, 46, 115, 111, 114, 116, 115, 36, 51]))]])
def laid_bailment_formula_none {H : Type} : DataW H := .agg [.lit (.int .i64 0), .lit (.int .i64 0)]
def laid_unicode_utf8_acceptRanges {H : Type} : DataW H := .agg [.agg [.lit (.int .u8 128), .lit (.int .u8 191)], .agg [.lit (.int .u8 160), .lit (.int .u8 191)], .agg [.lit (.int .u8 128), .lit (.int .u8 159)], .agg [.lit (.int .u8 144), .lit (.int .u8 191)], .agg [.lit (.int .u8 128), .lit (.int .u8 143)], .agg [.lit (.int .u8 0), .lit (.int .u8 0)], .agg [.lit (.int .u8 0), .lit (.int .u8 0)], .agg [.lit (.int .u8 0), .lit (.int .u8 0)], .agg [.lit (.int .u8 0), .lit (.int .u8 0)], .agg [.lit (.int .u8 0), .lit (.int .u8 0)], .agg [.lit (.int .u8 0), .lit (.int .u8 0)], .agg [.lit (.int .u8 0), .lit (.int .u8 0)], .agg [.lit (.int .u8 0), .lit (.int .u8 0)], .agg [.lit (.int .u8 0), .lit (.int .u8 0)], .agg [.lit (.int .u8 0), .lit (.int .u8 0)], .agg [.lit (.int .u8 0), .lit (.int .u8 0)]]
/-- One of Go's own tables, pinned by name: the form's constant. -/
def laid_unicode_utf8_first : DataW Unit := Go.Pinned.utf8First

/-- 'bailmentlaw29.ProveChecks': WHATEVER THE INPUT: true; the input reads as it did. -/
def proveChecksSpec : ChangeSpec := { name := "proveChecks", fn := fun _ => fun
  | [d1, d2, d3] => { results := [.lit (.bool true)], args := [d1, d2, d3] }
  | _ => none }
def proveChecksRow : OpenClaim := { program := "ytjimmpldofoimaagreatdoor", sum := "476b27ab10a2b6d5190926872f83e69ef2e1def4d30331577d3fc09c572f2dcc", func := "bailment/bailmentlaw29.ProveChecks", spec := "proveChecks", inPlace := ["internal/abi.NoEscape", "internal/bytealg.MakeNoZero"], unfollowed := true, recurses := true, named := ["bailment/prove.none", "bailment/prove.kinds", "internal/strconv.uint64pow10", "math/bits.deBruijn32tab", "math/bits.deBruijn64tab"], plainKeys := false, apart := false, laid := [("math/bits.deBruijn32tab", laid_math_bits_deBruijn32tab), ("math/bits.deBruijn64tab", laid_math_bits_deBruijn64tab), ("internal/strconv.uint64pow10", laid_internal_strconv_uint64pow10), ("bailment/prove.none", laid_bailment_prove_none), ("bailment/prove.kinds", laid_bailment_prove_kinds)] }
def ProveChecksSaid : Prop := proveChecksRow.holds Tryz.pinned (OpenSpec.ofChange proveChecksSpec)

/-- ITS FALSE NEIGHBOUR: 'it returns false'. Refute it at one input. -/
def proveChecksWrong : ChangeSpec := { name := "proveChecks", fn := fun _ => fun
  | [d1, d2, d3] => { results := [.lit (.bool false)], args := [d1, d2, d3] }
  | _ => none }
def ProveChecksWrongFalsely : Prop := proveChecksRow.holds Tryz.pinned (OpenSpec.ofChange proveChecksWrong)

/-- 'bailmentlaw29.ProveSearches': WHATEVER THE INPUT: true; the input reads as it did. -/
def proveSearchesSpec : ChangeSpec := { name := "proveSearches", fn := fun _ => fun
  | [d1, d2, d3] => { results := [.lit (.bool true)], args := [d1, d2, d3] }
  | _ => none }
def proveSearchesRow : OpenClaim := { program := "ytjimmpldofoimaagreatdoor", sum := "476b27ab10a2b6d5190926872f83e69ef2e1def4d30331577d3fc09c572f2dcc", func := "bailment/bailmentlaw29.ProveSearches", spec := "proveSearches", inPlace := ["internal/abi.NoEscape", "internal/bytealg.MakeNoZero"], unfollowed := true, recurses := true, named := ["bailment/prove.none", "bailment/prove.kinds", "internal/strconv.uint64pow10", "math/bits.deBruijn32tab", "math/bits.deBruijn64tab"], plainKeys := false, apart := false, laid := [("math/bits.deBruijn32tab", laid_math_bits_deBruijn32tab), ("math/bits.deBruijn64tab", laid_math_bits_deBruijn64tab), ("internal/strconv.uint64pow10", laid_internal_strconv_uint64pow10), ("bailment/prove.none", laid_bailment_prove_none), ("bailment/prove.kinds", laid_bailment_prove_kinds)] }
def ProveSearchesSaid : Prop := proveSearchesRow.holds Tryz.pinned (OpenSpec.ofChange proveSearchesSpec)

/-- ITS FALSE NEIGHBOUR: 'it returns false'. Refute it at one input. -/
def proveSearchesWrong : ChangeSpec := { name := "proveSearches", fn := fun _ => fun
  | [d1, d2, d3] => { results := [.lit (.bool false)], args := [d1, d2, d3] }
  | _ => none }
def ProveSearchesWrongFalsely : Prop := proveSearchesRow.holds Tryz.pinned (OpenSpec.ofChange proveSearchesWrong)

/-- 'bailmentlaw10.FormulaHolds': WHATEVER THE INPUT: true; the input reads as it did. -/
def formulaHoldsSpec : ChangeSpec := { name := "formulaHolds", fn := fun _ => fun
  | [d1, d2] => { results := [.lit (.bool true)], args := [d1, d2] }
  | _ => none }
def formulaHoldsRow : OpenClaim := { program := "ytjimmpldofoimaagreatdoor", sum := "476b27ab10a2b6d5190926872f83e69ef2e1def4d30331577d3fc09c572f2dcc", func := "bailment/bailmentlaw10.FormulaHolds", spec := "formulaHolds", inPlace := ["internal/abi.NoEscape", "internal/bytealg.MakeNoZero"], unfollowed := true, recurses := true, named := ["bailment/formula.sorts", "bailment/formula.none", "internal/strconv.uint64pow10", "math/bits.deBruijn32tab", "math/bits.deBruijn64tab"], plainKeys := false, apart := false, laid := [("math/bits.deBruijn32tab", laid_math_bits_deBruijn32tab), ("math/bits.deBruijn64tab", laid_math_bits_deBruijn64tab), ("internal/strconv.uint64pow10", laid_internal_strconv_uint64pow10), ("bailment/formula.sorts", laid_bailment_formula_sorts), ("bailment/formula.none", laid_bailment_formula_none)] }
def FormulaHoldsSaid : Prop := formulaHoldsRow.holds Tryz.pinned (OpenSpec.ofChange formulaHoldsSpec)

/-- ITS FALSE NEIGHBOUR: 'it returns false'. Refute it at one input. -/
def formulaHoldsWrong : ChangeSpec := { name := "formulaHolds", fn := fun _ => fun
  | [d1, d2] => { results := [.lit (.bool false)], args := [d1, d2] }
  | _ => none }
def FormulaHoldsWrongFalsely : Prop := formulaHoldsRow.holds Tryz.pinned (OpenSpec.ofChange formulaHoldsWrong)

/-- 'bailmentlaw10.FormulaCases': WHATEVER THE INPUT: true; the input reads as it did. -/
def formulaCasesSpec : ChangeSpec := { name := "formulaCases", fn := fun _ => fun
  | [d] => { results := [.lit (.bool true)], args := [d] }
  | _ => none }
def formulaCasesRow : OpenClaim := { program := "ytjimmpldofoimaagreatdoor", sum := "476b27ab10a2b6d5190926872f83e69ef2e1def4d30331577d3fc09c572f2dcc", func := "bailment/bailmentlaw10.FormulaCases", spec := "formulaCases", inPlace := ["internal/abi.NoEscape", "internal/bytealg.MakeNoZero"], unfollowed := true, recurses := true, named := ["bailment/formula.sorts", "bailment/formula.none", "internal/strconv.uint64pow10", "math/bits.deBruijn32tab", "math/bits.deBruijn64tab"], plainKeys := false, apart := false, laid := [("math/bits.deBruijn32tab", laid_math_bits_deBruijn32tab), ("math/bits.deBruijn64tab", laid_math_bits_deBruijn64tab), ("internal/strconv.uint64pow10", laid_internal_strconv_uint64pow10), ("bailment/formula.sorts", laid_bailment_formula_sorts), ("bailment/formula.none", laid_bailment_formula_none)] }
def FormulaCasesSaid : Prop := formulaCasesRow.holds Tryz.pinned (OpenSpec.ofChange formulaCasesSpec)

/-- ITS FALSE NEIGHBOUR: 'it returns false'. Refute it at one input. -/
def formulaCasesWrong : ChangeSpec := { name := "formulaCases", fn := fun _ => fun
  | [d] => { results := [.lit (.bool false)], args := [d] }
  | _ => none }
def FormulaCasesWrongFalsely : Prop := formulaCasesRow.holds Tryz.pinned (OpenSpec.ofChange formulaCasesWrong)

/-- 'bailmentlaw10.FormulaPuts': WHATEVER THE INPUT: true; the input reads as it did. -/
def formulaPutsSpec : ChangeSpec := { name := "formulaPuts", fn := fun _ => fun
  | [d1, d2] => { results := [.lit (.bool true)], args := [d1, d2] }
  | _ => none }
def formulaPutsRow : OpenClaim := { program := "ytjimmpldofoimaagreatdoor", sum := "476b27ab10a2b6d5190926872f83e69ef2e1def4d30331577d3fc09c572f2dcc", func := "bailment/bailmentlaw10.FormulaPuts", spec := "formulaPuts", inPlace := ["internal/abi.NoEscape", "internal/bytealg.MakeNoZero"], unfollowed := true, recurses := true, named := ["bailment/formula.sorts", "bailment/formula.none", "internal/strconv.uint64pow10", "math/bits.deBruijn32tab", "math/bits.deBruijn64tab"], plainKeys := false, apart := false, laid := [("math/bits.deBruijn32tab", laid_math_bits_deBruijn32tab), ("math/bits.deBruijn64tab", laid_math_bits_deBruijn64tab), ("internal/strconv.uint64pow10", laid_internal_strconv_uint64pow10), ("bailment/formula.sorts", laid_bailment_formula_sorts), ("bailment/formula.none", laid_bailment_formula_none)] }
def FormulaPutsSaid : Prop := formulaPutsRow.holds Tryz.pinned (OpenSpec.ofChange formulaPutsSpec)

/-- ITS FALSE NEIGHBOUR: 'it returns false'. Refute it at one input. -/
def formulaPutsWrong : ChangeSpec := { name := "formulaPuts", fn := fun _ => fun
  | [d1, d2] => { results := [.lit (.bool false)], args := [d1, d2] }
  | _ => none }
def FormulaPutsWrongFalsely : Prop := formulaPutsRow.holds Tryz.pinned (OpenSpec.ofChange formulaPutsWrong)

/-- 'bailmentlaw10.FormulaRanges': WHATEVER THE INPUT: true; the input reads as it did. -/
def formulaRangesSpec : ChangeSpec := { name := "formulaRanges", fn := fun _ => fun
  | [d1, d2] => { results := [.lit (.bool true)], args := [d1, d2] }
  | _ => none }
def formulaRangesRow : OpenClaim := { program := "ytjimmpldofoimaagreatdoor", sum := "476b27ab10a2b6d5190926872f83e69ef2e1def4d30331577d3fc09c572f2dcc", func := "bailment/bailmentlaw10.FormulaRanges", spec := "formulaRanges", inPlace := ["internal/abi.NoEscape", "internal/bytealg.MakeNoZero"], unfollowed := true, recurses := true, named := ["bailment/formula.sorts", "bailment/formula.none", "internal/strconv.uint64pow10", "math/bits.deBruijn32tab", "math/bits.deBruijn64tab"], plainKeys := false, apart := false, laid := [("math/bits.deBruijn32tab", laid_math_bits_deBruijn32tab), ("math/bits.deBruijn64tab", laid_math_bits_deBruijn64tab), ("internal/strconv.uint64pow10", laid_internal_strconv_uint64pow10), ("bailment/formula.sorts", laid_bailment_formula_sorts), ("bailment/formula.none", laid_bailment_formula_none)] }
def FormulaRangesSaid : Prop := formulaRangesRow.holds Tryz.pinned (OpenSpec.ofChange formulaRangesSpec)

/-- ITS FALSE NEIGHBOUR: 'it returns false'. Refute it at one input. -/
def formulaRangesWrong : ChangeSpec := { name := "formulaRanges", fn := fun _ => fun
  | [d1, d2] => { results := [.lit (.bool false)], args := [d1, d2] }
  | _ => none }
def FormulaRangesWrongFalsely : Prop := formulaRangesRow.holds Tryz.pinned (OpenSpec.ofChange formulaRangesWrong)

/-- 'bailmentlaw10.FormulaJoins': WHATEVER THE INPUT: true; the input reads as it did. -/
def formulaJoinsSpec : ChangeSpec := { name := "formulaJoins", fn := fun _ => fun
  | [d1, d2, d3] => { results := [.lit (.bool true)], args := [d1, d2, d3] }
  | _ => none }
def formulaJoinsRow : OpenClaim := { program := "ytjimmpldofoimaagreatdoor", sum := "476b27ab10a2b6d5190926872f83e69ef2e1def4d30331577d3fc09c572f2dcc", func := "bailment/bailmentlaw10.FormulaJoins", spec := "formulaJoins", inPlace := ["internal/abi.NoEscape", "internal/bytealg.MakeNoZero"], unfollowed := true, recurses := true, named := ["bailment/formula.sorts", "bailment/formula.none", "internal/strconv.uint64pow10", "math/bits.deBruijn32tab", "math/bits.deBruijn64tab"], plainKeys := false, apart := false, laid := [("math/bits.deBruijn32tab", laid_math_bits_deBruijn32tab), ("math/bits.deBruijn64tab", laid_math_bits_deBruijn64tab), ("internal/strconv.uint64pow10", laid_internal_strconv_uint64pow10), ("bailment/formula.sorts", laid_bailment_formula_sorts), ("bailment/formula.none", laid_bailment_formula_none)] }
def FormulaJoinsSaid : Prop := formulaJoinsRow.holds Tryz.pinned (OpenSpec.ofChange formulaJoinsSpec)

/-- ITS FALSE NEIGHBOUR: 'it returns false'. Refute it at one input. -/
def formulaJoinsWrong : ChangeSpec := { name := "formulaJoins", fn := fun _ => fun
  | [d1, d2, d3] => { results := [.lit (.bool false)], args := [d1, d2, d3] }
  | _ => none }
def FormulaJoinsWrongFalsely : Prop := formulaJoinsRow.holds Tryz.pinned (OpenSpec.ofChange formulaJoinsWrong)

/-- 'bailmentlaw10.FormulaTerms': WHATEVER THE INPUT: true; the input reads as it did. -/
def formulaTermsSpec : ChangeSpec := { name := "formulaTerms", fn := fun _ => fun
  | [d1, d2, d3] => { results := [.lit (.bool true)], args := [d1, d2, d3] }
  | _ => none }
def formulaTermsRow : OpenClaim := { program := "ytjimmpldofoimaagreatdoor", sum := "476b27ab10a2b6d5190926872f83e69ef2e1def4d30331577d3fc09c572f2dcc", func := "bailment/bailmentlaw10.FormulaTerms", spec := "formulaTerms", inPlace := ["internal/abi.NoEscape", "internal/bytealg.MakeNoZero"], unfollowed := true, recurses := true, named := ["bailment/formula.sorts", "bailment/formula.none", "internal/strconv.uint64pow10", "math/bits.deBruijn32tab", "math/bits.deBruijn64tab"], plainKeys := false, apart := false, laid := [("math/bits.deBruijn32tab", laid_math_bits_deBruijn32tab), ("math/bits.deBruijn64tab", laid_math_bits_deBruijn64tab), ("internal/strconv.uint64pow10", laid_internal_strconv_uint64pow10), ("bailment/formula.sorts", laid_bailment_formula_sorts), ("bailment/formula.none", laid_bailment_formula_none)] }
def FormulaTermsSaid : Prop := formulaTermsRow.holds Tryz.pinned (OpenSpec.ofChange formulaTermsSpec)

/-- ITS FALSE NEIGHBOUR: 'it returns false'. Refute it at one input. -/
def formulaTermsWrong : ChangeSpec := { name := "formulaTerms", fn := fun _ => fun
  | [d1, d2, d3] => { results := [.lit (.bool false)], args := [d1, d2, d3] }
  | _ => none }
def FormulaTermsWrongFalsely : Prop := formulaTermsRow.holds Tryz.pinned (OpenSpec.ofChange formulaTermsWrong)

/-- 'bailmentlaw29.ProveModels': WHATEVER THE INPUT: true; the input reads as it did. -/
def proveModelsSpec : ChangeSpec := { name := "proveModels", fn := fun _ => fun
  | [d1, d2, d3] => { results := [.lit (.bool true)], args := [d1, d2, d3] }
  | _ => none }
def proveModelsRow : OpenClaim := { program := "ytjimmpldofoimaagreatdoor", sum := "476b27ab10a2b6d5190926872f83e69ef2e1def4d30331577d3fc09c572f2dcc", func := "bailment/bailmentlaw29.ProveModels", spec := "proveModels", inPlace := ["internal/abi.NoEscape", "internal/bytealg.MakeNoZero"], unfollowed := true, recurses := true, named := ["bailment/prove.none", "bailment/prove.kinds", "internal/strconv.uint64pow10", "math/bits.deBruijn32tab", "math/bits.deBruijn64tab"], plainKeys := false, apart := false, laid := [("math/bits.deBruijn32tab", laid_math_bits_deBruijn32tab), ("math/bits.deBruijn64tab", laid_math_bits_deBruijn64tab), ("internal/strconv.uint64pow10", laid_internal_strconv_uint64pow10), ("bailment/prove.none", laid_bailment_prove_none), ("bailment/prove.kinds", laid_bailment_prove_kinds)] }
def ProveModelsSaid : Prop := proveModelsRow.holds Tryz.pinned (OpenSpec.ofChange proveModelsSpec)

/-- ITS FALSE NEIGHBOUR: 'it returns false'. Refute it at one input. -/
def proveModelsWrong : ChangeSpec := { name := "proveModels", fn := fun _ => fun
  | [d1, d2, d3] => { results := [.lit (.bool false)], args := [d1, d2, d3] }
  | _ => none }
def ProveModelsWrongFalsely : Prop := proveModelsRow.holds Tryz.pinned (OpenSpec.ofChange proveModelsWrong)

/-- 'bailmentlaw29.ProveTrue': WHATEVER THE INPUT: true; the input reads as it did. -/
def proveTrueSpec : ChangeSpec := { name := "proveTrue", fn := fun _ => fun
  | [d1, d2, d3] => { results := [.lit (.bool true)], args := [d1, d2, d3] }
  | _ => none }
def proveTrueRow : OpenClaim := { program := "ytjimmpldofoimaagreatdoor", sum := "476b27ab10a2b6d5190926872f83e69ef2e1def4d30331577d3fc09c572f2dcc", func := "bailment/bailmentlaw29.ProveTrue", spec := "proveTrue", inPlace := ["internal/abi.NoEscape", "internal/bytealg.MakeNoZero"], unfollowed := true, recurses := true, named := ["bailment/prove.none", "bailment/prove.kinds", "internal/strconv.uint64pow10", "math/bits.deBruijn32tab", "math/bits.deBruijn64tab"], plainKeys := false, apart := false, laid := [("math/bits.deBruijn32tab", laid_math_bits_deBruijn32tab), ("math/bits.deBruijn64tab", laid_math_bits_deBruijn64tab), ("internal/strconv.uint64pow10", laid_internal_strconv_uint64pow10), ("bailment/prove.none", laid_bailment_prove_none), ("bailment/prove.kinds", laid_bailment_prove_kinds)] }
def ProveTrueSaid : Prop := proveTrueRow.holds Tryz.pinned (OpenSpec.ofChange proveTrueSpec)

/-- ITS FALSE NEIGHBOUR: 'it returns false'. Refute it at one input. -/
def proveTrueWrong : ChangeSpec := { name := "proveTrue", fn := fun _ => fun
  | [d1, d2, d3] => { results := [.lit (.bool false)], args := [d1, d2, d3] }
  | _ => none }
def ProveTrueWrongFalsely : Prop := proveTrueRow.holds Tryz.pinned (OpenSpec.ofChange proveTrueWrong)

/-- 'bailmentlaw10.FormulaMeans': WHATEVER THE INPUT: true; the input reads as it did. -/
def formulaMeansSpec : ChangeSpec := { name := "formulaMeans", fn := fun _ => fun
  | [d1, d2, d3] => { results := [.lit (.bool true)], args := [d1, d2, d3] }
  | _ => none }
def formulaMeansRow : OpenClaim := { program := "ytjimmpldofoimaagreatdoor", sum := "476b27ab10a2b6d5190926872f83e69ef2e1def4d30331577d3fc09c572f2dcc", func := "bailment/bailmentlaw10.FormulaMeans", spec := "formulaMeans", inPlace := ["internal/abi.NoEscape", "internal/bytealg.MakeNoZero"], unfollowed := true, recurses := true, named := ["bailment/formula.sorts", "bailment/formula.none", "internal/strconv.uint64pow10", "math/bits.deBruijn32tab", "math/bits.deBruijn64tab"], plainKeys := false, apart := false, laid := [("math/bits.deBruijn32tab", laid_math_bits_deBruijn32tab), ("math/bits.deBruijn64tab", laid_math_bits_deBruijn64tab), ("internal/strconv.uint64pow10", laid_internal_strconv_uint64pow10), ("bailment/formula.sorts", laid_bailment_formula_sorts), ("bailment/formula.none", laid_bailment_formula_none)] }
def FormulaMeansSaid : Prop := formulaMeansRow.holds Tryz.pinned (OpenSpec.ofChange formulaMeansSpec)

/-- ITS FALSE NEIGHBOUR: 'it returns false'. Refute it at one input. -/
def formulaMeansWrong : ChangeSpec := { name := "formulaMeans", fn := fun _ => fun
  | [d1, d2, d3] => { results := [.lit (.bool false)], args := [d1, d2, d3] }
  | _ => none }
def FormulaMeansWrongFalsely : Prop := formulaMeansRow.holds Tryz.pinned (OpenSpec.ofChange formulaMeansWrong)

/-- 'bailmentlaw29.ProveFinds': WHATEVER THE INPUT: true; the input reads as it did. -/
def proveFindsSpec : ChangeSpec := { name := "proveFinds", fn := fun _ => fun
  | [d1, d2, d3] => { results := [.lit (.bool true)], args := [d1, d2, d3] }
  | _ => none }
def proveFindsRow : OpenClaim := { program := "ytjimmpldofoimaagreatdoor", sum := "476b27ab10a2b6d5190926872f83e69ef2e1def4d30331577d3fc09c572f2dcc", func := "bailment/bailmentlaw29.ProveFinds", spec := "proveFinds", inPlace := ["internal/abi.NoEscape", "internal/bytealg.MakeNoZero"], unfollowed := true, recurses := true, named := ["bailment/prove.none", "bailment/prove.kinds", "internal/strconv.uint64pow10", "math/bits.deBruijn32tab", "math/bits.deBruijn64tab", "bailment/formula.sorts", "bailment/formula.none"], plainKeys := false, apart := false, laid := [("math/bits.deBruijn32tab", laid_math_bits_deBruijn32tab), ("math/bits.deBruijn64tab", laid_math_bits_deBruijn64tab), ("internal/strconv.uint64pow10", laid_internal_strconv_uint64pow10), ("bailment/formula.sorts", laid_bailment_formula_sorts), ("bailment/formula.none", laid_bailment_formula_none), ("bailment/prove.none", laid_bailment_prove_none), ("bailment/prove.kinds", laid_bailment_prove_kinds)] }
def ProveFindsSaid : Prop := proveFindsRow.holds Tryz.pinned (OpenSpec.ofChange proveFindsSpec)

/-- ITS FALSE NEIGHBOUR: 'it returns false'. Refute it at one input. -/
def proveFindsWrong : ChangeSpec := { name := "proveFinds", fn := fun _ => fun
  | [d1, d2, d3] => { results := [.lit (.bool false)], args := [d1, d2, d3] }
  | _ => none }
def ProveFindsWrongFalsely : Prop := proveFindsRow.holds Tryz.pinned (OpenSpec.ofChange proveFindsWrong)

/-- 'bailmentlaw29.ProveNever': WHATEVER THE INPUT: true; the input reads as it did. -/
def proveNeverSpec : ChangeSpec := { name := "proveNever", fn := fun _ => fun
  | [d1, d2, d3] => { results := [.lit (.bool true)], args := [d1, d2, d3] }
  | _ => none }
def proveNeverRow : OpenClaim := { program := "ytjimmpldofoimaagreatdoor", sum := "476b27ab10a2b6d5190926872f83e69ef2e1def4d30331577d3fc09c572f2dcc", func := "bailment/bailmentlaw29.ProveNever", spec := "proveNever", inPlace := ["internal/abi.NoEscape", "internal/bytealg.MakeNoZero", "internal/bytealg.IndexByteString", "internal/bytealg.CountString", "internal/bytealg.IndexString"], unfollowed := true, recurses := true, named := ["bailment/prove.none", "bailment/prove.kinds", "internal/strconv.uint64pow10", "math/bits.deBruijn32tab", "math/bits.deBruijn64tab", "unicode/utf8.first", "unicode/utf8.acceptRanges", "internal/bytealg.MaxLen", "bailment/formula.sorts", "bailment/formula.none"], plainKeys := false, apart := false, laid := [("math/bits.deBruijn32tab", laid_math_bits_deBruijn32tab), ("math/bits.deBruijn64tab", laid_math_bits_deBruijn64tab), ("internal/strconv.uint64pow10", laid_internal_strconv_uint64pow10), ("unicode/utf8.acceptRanges", laid_unicode_utf8_acceptRanges), ("bailment/formula.sorts", laid_bailment_formula_sorts), ("bailment/formula.none", laid_bailment_formula_none), ("bailment/prove.none", laid_bailment_prove_none), ("bailment/prove.kinds", laid_bailment_prove_kinds), ("unicode/utf8.first", laid_unicode_utf8_first)] }
def ProveNeverSaid : Prop := proveNeverRow.holds Tryz.pinned (OpenSpec.ofChange proveNeverSpec)

/-- ITS FALSE NEIGHBOUR: 'it returns false'. Refute it at one input. -/
def proveNeverWrong : ChangeSpec := { name := "proveNever", fn := fun _ => fun
  | [d1, d2, d3] => { results := [.lit (.bool false)], args := [d1, d2, d3] }
  | _ => none }
def ProveNeverWrongFalsely : Prop := proveNeverRow.holds Tryz.pinned (OpenSpec.ofChange proveNeverWrong)

/-- 'bailmentlaw29.ProveFormulas': WHATEVER THE INPUT: true; the input reads as it did. -/
def proveFormulasSpec : ChangeSpec := { name := "proveFormulas", fn := fun _ => fun
  | [d1, d2] => { results := [.lit (.bool true)], args := [d1, d2] }
  | _ => none }
def proveFormulasRow : OpenClaim := { program := "ytjimmpldofoimaagreatdoor", sum := "476b27ab10a2b6d5190926872f83e69ef2e1def4d30331577d3fc09c572f2dcc", func := "bailment/bailmentlaw29.ProveFormulas", spec := "proveFormulas", inPlace := ["internal/abi.NoEscape", "internal/bytealg.MakeNoZero"], unfollowed := true, recurses := true, named := ["bailment/prove.none", "bailment/prove.kinds", "internal/strconv.uint64pow10", "math/bits.deBruijn32tab", "math/bits.deBruijn64tab", "bailment/formula.sorts", "bailment/formula.none"], plainKeys := false, apart := false, laid := [("math/bits.deBruijn32tab", laid_math_bits_deBruijn32tab), ("math/bits.deBruijn64tab", laid_math_bits_deBruijn64tab), ("internal/strconv.uint64pow10", laid_internal_strconv_uint64pow10), ("bailment/formula.sorts", laid_bailment_formula_sorts), ("bailment/formula.none", laid_bailment_formula_none), ("bailment/prove.none", laid_bailment_prove_none), ("bailment/prove.kinds", laid_bailment_prove_kinds)] }
def ProveFormulasSaid : Prop := proveFormulasRow.holds Tryz.pinned (OpenSpec.ofChange proveFormulasSpec)

/-- ITS FALSE NEIGHBOUR: 'it returns false'. Refute it at one input. -/
def proveFormulasWrong : ChangeSpec := { name := "proveFormulas", fn := fun _ => fun
  | [d1, d2] => { results := [.lit (.bool false)], args := [d1, d2] }
  | _ => none }
def ProveFormulasWrongFalsely : Prop := proveFormulasRow.holds Tryz.pinned (OpenSpec.ofChange proveFormulasWrong)

/-- 'bailmentlaw29.ProveStrings': WHATEVER THE INPUT: true; the input reads as it did. -/
def proveStringsSpec : ChangeSpec := { name := "proveStrings", fn := fun _ => fun
  | [d1, d2, d3] => { results := [.lit (.bool true)], args := [d1, d2, d3] }
  | _ => none }
def proveStringsRow : OpenClaim := { program := "ytjimmpldofoimaagreatdoor", sum := "476b27ab10a2b6d5190926872f83e69ef2e1def4d30331577d3fc09c572f2dcc", func := "bailment/bailmentlaw29.ProveStrings", spec := "proveStrings", inPlace := ["internal/abi.NoEscape", "internal/bytealg.MakeNoZero", "internal/bytealg.IndexByteString", "internal/bytealg.CountString", "internal/bytealg.IndexString"], unfollowed := true, recurses := true, named := ["bailment/prove.none", "bailment/prove.kinds", "internal/strconv.uint64pow10", "math/bits.deBruijn32tab", "math/bits.deBruijn64tab", "unicode/utf8.first", "unicode/utf8.acceptRanges", "internal/bytealg.MaxLen"], plainKeys := false, apart := false, laid := [("math/bits.deBruijn32tab", laid_math_bits_deBruijn32tab), ("math/bits.deBruijn64tab", laid_math_bits_deBruijn64tab), ("internal/strconv.uint64pow10", laid_internal_strconv_uint64pow10), ("unicode/utf8.acceptRanges", laid_unicode_utf8_acceptRanges), ("bailment/prove.none", laid_bailment_prove_none), ("bailment/prove.kinds", laid_bailment_prove_kinds), ("unicode/utf8.first", laid_unicode_utf8_first)] }
def ProveStringsSaid : Prop := proveStringsRow.holds Tryz.pinned (OpenSpec.ofChange proveStringsSpec)

/-- ITS FALSE NEIGHBOUR: 'it returns false'. Refute it at one input. -/
def proveStringsWrong : ChangeSpec := { name := "proveStrings", fn := fun _ => fun
  | [d1, d2, d3] => { results := [.lit (.bool false)], args := [d1, d2, d3] }
  | _ => none }
def ProveStringsWrongFalsely : Prop := proveStringsRow.holds Tryz.pinned (OpenSpec.ofChange proveStringsWrong)

/-- 'bailmentlaw10.FormulaStrings': WHATEVER THE INPUT: true; the input reads as it did. -/
def formulaStringsSpec : ChangeSpec := { name := "formulaStrings", fn := fun _ => fun
  | [d1, d2] => { results := [.lit (.bool true)], args := [d1, d2] }
  | _ => none }
def formulaStringsRow : OpenClaim := { program := "ytjimmpldofoimaagreatdoor", sum := "476b27ab10a2b6d5190926872f83e69ef2e1def4d30331577d3fc09c572f2dcc", func := "bailment/bailmentlaw10.FormulaStrings", spec := "formulaStrings", inPlace := ["internal/abi.NoEscape", "internal/bytealg.MakeNoZero", "internal/bytealg.IndexByteString", "internal/bytealg.CountString", "internal/bytealg.IndexString"], unfollowed := true, recurses := true, named := ["bailment/formula.sorts", "bailment/formula.none", "internal/strconv.uint64pow10", "math/bits.deBruijn32tab", "math/bits.deBruijn64tab", "unicode/utf8.first", "unicode/utf8.acceptRanges", "internal/bytealg.MaxLen"], plainKeys := false, apart := false, laid := [("math/bits.deBruijn32tab", laid_math_bits_deBruijn32tab), ("math/bits.deBruijn64tab", laid_math_bits_deBruijn64tab), ("internal/strconv.uint64pow10", laid_internal_strconv_uint64pow10), ("unicode/utf8.acceptRanges", laid_unicode_utf8_acceptRanges), ("bailment/formula.sorts", laid_bailment_formula_sorts), ("bailment/formula.none", laid_bailment_formula_none), ("unicode/utf8.first", laid_unicode_utf8_first)] }
def FormulaStringsSaid : Prop := formulaStringsRow.holds Tryz.pinned (OpenSpec.ofChange formulaStringsSpec)

/-- ITS FALSE NEIGHBOUR: 'it returns false'. Refute it at one input. -/
def formulaStringsWrong : ChangeSpec := { name := "formulaStrings", fn := fun _ => fun
  | [d1, d2] => { results := [.lit (.bool false)], args := [d1, d2] }
  | _ => none }
def FormulaStringsWrongFalsely : Prop := formulaStringsRow.holds Tryz.pinned (OpenSpec.ofChange formulaStringsWrong)

/-- 'bailmentlaw10.FormulaMoves': WHATEVER THE INPUT: true; the input reads as it did. -/
def formulaMovesSpec : ChangeSpec := { name := "formulaMoves", fn := fun _ => fun
  | [d1, d2, d3] => { results := [.lit (.bool true)], args := [d1, d2, d3] }
  | _ => none }
def formulaMovesRow : OpenClaim := { program := "ytjimmpldofoimaagreatdoor", sum := "476b27ab10a2b6d5190926872f83e69ef2e1def4d30331577d3fc09c572f2dcc", func := "bailment/bailmentlaw10.FormulaMoves", spec := "formulaMoves", inPlace := ["internal/abi.NoEscape", "internal/bytealg.MakeNoZero", "internal/bytealg.IndexByteString", "internal/bytealg.CountString", "internal/bytealg.IndexString"], unfollowed := true, recurses := true, named := ["bailment/formula.sorts", "bailment/formula.none", "internal/strconv.uint64pow10", "math/bits.deBruijn32tab", "math/bits.deBruijn64tab", "unicode/utf8.first", "unicode/utf8.acceptRanges", "internal/bytealg.MaxLen"], plainKeys := false, apart := false, laid := [("math/bits.deBruijn32tab", laid_math_bits_deBruijn32tab), ("math/bits.deBruijn64tab", laid_math_bits_deBruijn64tab), ("internal/strconv.uint64pow10", laid_internal_strconv_uint64pow10), ("unicode/utf8.acceptRanges", laid_unicode_utf8_acceptRanges), ("bailment/formula.sorts", laid_bailment_formula_sorts), ("bailment/formula.none", laid_bailment_formula_none), ("unicode/utf8.first", laid_unicode_utf8_first)] }
def FormulaMovesSaid : Prop := formulaMovesRow.holds Tryz.pinned (OpenSpec.ofChange formulaMovesSpec)

/-- ITS FALSE NEIGHBOUR: 'it returns false'. Refute it at one input. -/
def formulaMovesWrong : ChangeSpec := { name := "formulaMoves", fn := fun _ => fun
  | [d1, d2, d3] => { results := [.lit (.bool false)], args := [d1, d2, d3] }
  | _ => none }
def FormulaMovesWrongFalsely : Prop := formulaMovesRow.holds Tryz.pinned (OpenSpec.ofChange formulaMovesWrong)

/- THE SECOND FORM. 'bulk': how many values and letters a reading holds, each counted each time it is reached (what is shared counts as often as it is met; a slice's spare places count too). A statement '..UptoSaid' is the law's where the arguments, and the package variables that the reading takes, are together of bulk at most 1048576: NARROWER than '..Said'. Prove '..Said' where nothing that the law and all that it calls make is longer than what came in: it says more and counts as full. Else prove '..UptoSaid'. A law counts once. -/
mutual
def uptoBulk {H : Type} : DataW H → Nat
  | .lit (.string bytes) => bytes.length + 1
  | .lit _ => 1
  | .nil => 1
  | .ptr d => uptoBulk d + 1
  | .slice elems spare => uptoBulkAll elems + uptoBulkAll spare + 1
  | .agg parts => uptoBulkAll parts + 1
  | .iface _ d => uptoBulk d + 1
  | .map entries => uptoBulkEntries entries + 1
  | .held _ => 1
def uptoBulkAll {H : Type} : List (DataW H) → Nat
  | [] => 0
  | d :: r => uptoBulk d + uptoBulkAll r
def uptoBulkEntries {H : Type} : List (Lit × DataW H) → Nat
  | [] => 0
  | x :: r => uptoBulkEntry x + uptoBulkEntries r
def uptoBulkEntry {H : Type} : Lit × DataW H → Nat
  | (.string bytes, d) => bytes.length + uptoBulk d + 1
  | (_, d) => uptoBulk d + 1
 end
def uptoSmall : (H : Type) → List (DataW H) → Bool := fun _ ds => decide (uptoBulkAll ds ≤ 1048576)
def OpenSpec.upto (s : _root_.Go.ChangeSpec) : _root_.Go.OpenSpec := { _root_.Go.OpenSpec.ofChange s with cond := some uptoSmall }

/-- 'bailmentlaw29.ProveChecks', WHERE WHAT IT READS IS OF BULK AT MOST 1048576: true; the input reads as it did. -/
def proveChecksUptoRow : OpenClaim := { program := "ytjimmpldofoimaagreatdoor", sum := "476b27ab10a2b6d5190926872f83e69ef2e1def4d30331577d3fc09c572f2dcc", func := "bailment/bailmentlaw29.ProveChecks", spec := "proveChecks", inPlace := ["internal/abi.NoEscape", "internal/bytealg.MakeNoZero"], unfollowed := true, recurses := true, named := ["bailment/prove.none", "bailment/prove.kinds", "internal/strconv.uint64pow10", "math/bits.deBruijn32tab", "math/bits.deBruijn64tab"], plainKeys := false, apart := false, laid := [("math/bits.deBruijn32tab", laid_math_bits_deBruijn32tab), ("math/bits.deBruijn64tab", laid_math_bits_deBruijn64tab), ("internal/strconv.uint64pow10", laid_internal_strconv_uint64pow10), ("bailment/prove.none", laid_bailment_prove_none), ("bailment/prove.kinds", laid_bailment_prove_kinds)], narrowed := true }
def ProveChecksUptoSaid : Prop := proveChecksUptoRow.holds Tryz.pinned (OpenSpec.upto proveChecksSpec)

/-- 'bailmentlaw29.ProveSearches', WHERE WHAT IT READS IS OF BULK AT MOST 1048576: true; the input reads as it did. -/
def proveSearchesUptoRow : OpenClaim := { program := "ytjimmpldofoimaagreatdoor", sum := "476b27ab10a2b6d5190926872f83e69ef2e1def4d30331577d3fc09c572f2dcc", func := "bailment/bailmentlaw29.ProveSearches", spec := "proveSearches", inPlace := ["internal/abi.NoEscape", "internal/bytealg.MakeNoZero"], unfollowed := true, recurses := true, named := ["bailment/prove.none", "bailment/prove.kinds", "internal/strconv.uint64pow10", "math/bits.deBruijn32tab", "math/bits.deBruijn64tab"], plainKeys := false, apart := false, laid := [("math/bits.deBruijn32tab", laid_math_bits_deBruijn32tab), ("math/bits.deBruijn64tab", laid_math_bits_deBruijn64tab), ("internal/strconv.uint64pow10", laid_internal_strconv_uint64pow10), ("bailment/prove.none", laid_bailment_prove_none), ("bailment/prove.kinds", laid_bailment_prove_kinds)], narrowed := true }
def ProveSearchesUptoSaid : Prop := proveSearchesUptoRow.holds Tryz.pinned (OpenSpec.upto proveSearchesSpec)

/-- 'bailmentlaw10.FormulaHolds', WHERE WHAT IT READS IS OF BULK AT MOST 1048576: true; the input reads as it did. -/
def formulaHoldsUptoRow : OpenClaim := { program := "ytjimmpldofoimaagreatdoor", sum := "476b27ab10a2b6d5190926872f83e69ef2e1def4d30331577d3fc09c572f2dcc", func := "bailment/bailmentlaw10.FormulaHolds", spec := "formulaHolds", inPlace := ["internal/abi.NoEscape", "internal/bytealg.MakeNoZero"], unfollowed := true, recurses := true, named := ["bailment/formula.sorts", "bailment/formula.none", "internal/strconv.uint64pow10", "math/bits.deBruijn32tab", "math/bits.deBruijn64tab"], plainKeys := false, apart := false, laid := [("math/bits.deBruijn32tab", laid_math_bits_deBruijn32tab), ("math/bits.deBruijn64tab", laid_math_bits_deBruijn64tab), ("internal/strconv.uint64pow10", laid_internal_strconv_uint64pow10), ("bailment/formula.sorts", laid_bailment_formula_sorts), ("bailment/formula.none", laid_bailment_formula_none)], narrowed := true }
def FormulaHoldsUptoSaid : Prop := formulaHoldsUptoRow.holds Tryz.pinned (OpenSpec.upto formulaHoldsSpec)

/-- 'bailmentlaw10.FormulaCases', WHERE WHAT IT READS IS OF BULK AT MOST 1048576: true; the input reads as it did. -/
def formulaCasesUptoRow : OpenClaim := { program := "ytjimmpldofoimaagreatdoor", sum := "476b27ab10a2b6d5190926872f83e69ef2e1def4d30331577d3fc09c572f2dcc", func := "bailment/bailmentlaw10.FormulaCases", spec := "formulaCases", inPlace := ["internal/abi.NoEscape", "internal/bytealg.MakeNoZero"], unfollowed := true, recurses := true, named := ["bailment/formula.sorts", "bailment/formula.none", "internal/strconv.uint64pow10", "math/bits.deBruijn32tab", "math/bits.deBruijn64tab"], plainKeys := false, apart := false, laid := [("math/bits.deBruijn32tab", laid_math_bits_deBruijn32tab), ("math/bits.deBruijn64tab", laid_math_bits_deBruijn64tab), ("internal/strconv.uint64pow10", laid_internal_strconv_uint64pow10), ("bailment/formula.sorts", laid_bailment_formula_sorts), ("bailment/formula.none", laid_bailment_formula_none)], narrowed := true }
def FormulaCasesUptoSaid : Prop := formulaCasesUptoRow.holds Tryz.pinned (OpenSpec.upto formulaCasesSpec)

/-- 'bailmentlaw10.FormulaPuts', WHERE WHAT IT READS IS OF BULK AT MOST 1048576: true; the input reads as it did. -/
def formulaPutsUptoRow : OpenClaim := { program := "ytjimmpldofoimaagreatdoor", sum := "476b27ab10a2b6d5190926872f83e69ef2e1def4d30331577d3fc09c572f2dcc", func := "bailment/bailmentlaw10.FormulaPuts", spec := "formulaPuts", inPlace := ["internal/abi.NoEscape", "internal/bytealg.MakeNoZero"], unfollowed := true, recurses := true, named := ["bailment/formula.sorts", "bailment/formula.none", "internal/strconv.uint64pow10", "math/bits.deBruijn32tab", "math/bits.deBruijn64tab"], plainKeys := false, apart := false, laid := [("math/bits.deBruijn32tab", laid_math_bits_deBruijn32tab), ("math/bits.deBruijn64tab", laid_math_bits_deBruijn64tab), ("internal/strconv.uint64pow10", laid_internal_strconv_uint64pow10), ("bailment/formula.sorts", laid_bailment_formula_sorts), ("bailment/formula.none", laid_bailment_formula_none)], narrowed := true }
def FormulaPutsUptoSaid : Prop := formulaPutsUptoRow.holds Tryz.pinned (OpenSpec.upto formulaPutsSpec)

/-- 'bailmentlaw10.FormulaRanges', WHERE WHAT IT READS IS OF BULK AT MOST 1048576: true; the input reads as it did. -/
def formulaRangesUptoRow : OpenClaim := { program := "ytjimmpldofoimaagreatdoor", sum := "476b27ab10a2b6d5190926872f83e69ef2e1def4d30331577d3fc09c572f2dcc", func := "bailment/bailmentlaw10.FormulaRanges", spec := "formulaRanges", inPlace := ["internal/abi.NoEscape", "internal/bytealg.MakeNoZero"], unfollowed := true, recurses := true, named := ["bailment/formula.sorts", "bailment/formula.none", "internal/strconv.uint64pow10", "math/bits.deBruijn32tab", "math/bits.deBruijn64tab"], plainKeys := false, apart := false, laid := [("math/bits.deBruijn32tab", laid_math_bits_deBruijn32tab), ("math/bits.deBruijn64tab", laid_math_bits_deBruijn64tab), ("internal/strconv.uint64pow10", laid_internal_strconv_uint64pow10), ("bailment/formula.sorts", laid_bailment_formula_sorts), ("bailment/formula.none", laid_bailment_formula_none)], narrowed := true }
def FormulaRangesUptoSaid : Prop := formulaRangesUptoRow.holds Tryz.pinned (OpenSpec.upto formulaRangesSpec)

/-- 'bailmentlaw10.FormulaJoins', WHERE WHAT IT READS IS OF BULK AT MOST 1048576: true; the input reads as it did. -/
def formulaJoinsUptoRow : OpenClaim := { program := "ytjimmpldofoimaagreatdoor", sum := "476b27ab10a2b6d5190926872f83e69ef2e1def4d30331577d3fc09c572f2dcc", func := "bailment/bailmentlaw10.FormulaJoins", spec := "formulaJoins", inPlace := ["internal/abi.NoEscape", "internal/bytealg.MakeNoZero"], unfollowed := true, recurses := true, named := ["bailment/formula.sorts", "bailment/formula.none", "internal/strconv.uint64pow10", "math/bits.deBruijn32tab", "math/bits.deBruijn64tab"], plainKeys := false, apart := false, laid := [("math/bits.deBruijn32tab", laid_math_bits_deBruijn32tab), ("math/bits.deBruijn64tab", laid_math_bits_deBruijn64tab), ("internal/strconv.uint64pow10", laid_internal_strconv_uint64pow10), ("bailment/formula.sorts", laid_bailment_formula_sorts), ("bailment/formula.none", laid_bailment_formula_none)], narrowed := true }
def FormulaJoinsUptoSaid : Prop := formulaJoinsUptoRow.holds Tryz.pinned (OpenSpec.upto formulaJoinsSpec)

/-- 'bailmentlaw10.FormulaTerms', WHERE WHAT IT READS IS OF BULK AT MOST 1048576: true; the input reads as it did. -/
def formulaTermsUptoRow : OpenClaim := { program := "ytjimmpldofoimaagreatdoor", sum := "476b27ab10a2b6d5190926872f83e69ef2e1def4d30331577d3fc09c572f2dcc", func := "bailment/bailmentlaw10.FormulaTerms", spec := "formulaTerms", inPlace := ["internal/abi.NoEscape", "internal/bytealg.MakeNoZero"], unfollowed := true, recurses := true, named := ["bailment/formula.sorts", "bailment/formula.none", "internal/strconv.uint64pow10", "math/bits.deBruijn32tab", "math/bits.deBruijn64tab"], plainKeys := false, apart := false, laid := [("math/bits.deBruijn32tab", laid_math_bits_deBruijn32tab), ("math/bits.deBruijn64tab", laid_math_bits_deBruijn64tab), ("internal/strconv.uint64pow10", laid_internal_strconv_uint64pow10), ("bailment/formula.sorts", laid_bailment_formula_sorts), ("bailment/formula.none", laid_bailment_formula_none)], narrowed := true }
def FormulaTermsUptoSaid : Prop := formulaTermsUptoRow.holds Tryz.pinned (OpenSpec.upto formulaTermsSpec)

/-- 'bailmentlaw29.ProveModels', WHERE WHAT IT READS IS OF BULK AT MOST 1048576: true; the input reads as it did. -/
def proveModelsUptoRow : OpenClaim := { program := "ytjimmpldofoimaagreatdoor", sum := "476b27ab10a2b6d5190926872f83e69ef2e1def4d30331577d3fc09c572f2dcc", func := "bailment/bailmentlaw29.ProveModels", spec := "proveModels", inPlace := ["internal/abi.NoEscape", "internal/bytealg.MakeNoZero"], unfollowed := true, recurses := true, named := ["bailment/prove.none", "bailment/prove.kinds", "internal/strconv.uint64pow10", "math/bits.deBruijn32tab", "math/bits.deBruijn64tab"], plainKeys := false, apart := false, laid := [("math/bits.deBruijn32tab", laid_math_bits_deBruijn32tab), ("math/bits.deBruijn64tab", laid_math_bits_deBruijn64tab), ("internal/strconv.uint64pow10", laid_internal_strconv_uint64pow10), ("bailment/prove.none", laid_bailment_prove_none), ("bailment/prove.kinds", laid_bailment_prove_kinds)], narrowed := true }
def ProveModelsUptoSaid : Prop := proveModelsUptoRow.holds Tryz.pinned (OpenSpec.upto proveModelsSpec)

/-- 'bailmentlaw29.ProveTrue', WHERE WHAT IT READS IS OF BULK AT MOST 1048576: true; the input reads as it did. -/
def proveTrueUptoRow : OpenClaim := { program := "ytjimmpldofoimaagreatdoor", sum := "476b27ab10a2b6d5190926872f83e69ef2e1def4d30331577d3fc09c572f2dcc", func := "bailment/bailmentlaw29.ProveTrue", spec := "proveTrue", inPlace := ["internal/abi.NoEscape", "internal/bytealg.MakeNoZero"], unfollowed := true, recurses := true, named := ["bailment/prove.none", "bailment/prove.kinds", "internal/strconv.uint64pow10", "math/bits.deBruijn32tab", "math/bits.deBruijn64tab"], plainKeys := false, apart := false, laid := [("math/bits.deBruijn32tab", laid_math_bits_deBruijn32tab), ("math/bits.deBruijn64tab", laid_math_bits_deBruijn64tab), ("internal/strconv.uint64pow10", laid_internal_strconv_uint64pow10), ("bailment/prove.none", laid_bailment_prove_none), ("bailment/prove.kinds", laid_bailment_prove_kinds)], narrowed := true }
def ProveTrueUptoSaid : Prop := proveTrueUptoRow.holds Tryz.pinned (OpenSpec.upto proveTrueSpec)

/-- 'bailmentlaw10.FormulaMeans', WHERE WHAT IT READS IS OF BULK AT MOST 1048576: true; the input reads as it did. -/
def formulaMeansUptoRow : OpenClaim := { program := "ytjimmpldofoimaagreatdoor", sum := "476b27ab10a2b6d5190926872f83e69ef2e1def4d30331577d3fc09c572f2dcc", func := "bailment/bailmentlaw10.FormulaMeans", spec := "formulaMeans", inPlace := ["internal/abi.NoEscape", "internal/bytealg.MakeNoZero"], unfollowed := true, recurses := true, named := ["bailment/formula.sorts", "bailment/formula.none", "internal/strconv.uint64pow10", "math/bits.deBruijn32tab", "math/bits.deBruijn64tab"], plainKeys := false, apart := false, laid := [("math/bits.deBruijn32tab", laid_math_bits_deBruijn32tab), ("math/bits.deBruijn64tab", laid_math_bits_deBruijn64tab), ("internal/strconv.uint64pow10", laid_internal_strconv_uint64pow10), ("bailment/formula.sorts", laid_bailment_formula_sorts), ("bailment/formula.none", laid_bailment_formula_none)], narrowed := true }
def FormulaMeansUptoSaid : Prop := formulaMeansUptoRow.holds Tryz.pinned (OpenSpec.upto formulaMeansSpec)

/-- 'bailmentlaw29.ProveFinds', WHERE WHAT IT READS IS OF BULK AT MOST 1048576: true; the input reads as it did. -/
def proveFindsUptoRow : OpenClaim := { program := "ytjimmpldofoimaagreatdoor", sum := "476b27ab10a2b6d5190926872f83e69ef2e1def4d30331577d3fc09c572f2dcc", func := "bailment/bailmentlaw29.ProveFinds", spec := "proveFinds", inPlace := ["internal/abi.NoEscape", "internal/bytealg.MakeNoZero"], unfollowed := true, recurses := true, named := ["bailment/prove.none", "bailment/prove.kinds", "internal/strconv.uint64pow10", "math/bits.deBruijn32tab", "math/bits.deBruijn64tab", "bailment/formula.sorts", "bailment/formula.none"], plainKeys := false, apart := false, laid := [("math/bits.deBruijn32tab", laid_math_bits_deBruijn32tab), ("math/bits.deBruijn64tab", laid_math_bits_deBruijn64tab), ("internal/strconv.uint64pow10", laid_internal_strconv_uint64pow10), ("bailment/formula.sorts", laid_bailment_formula_sorts), ("bailment/formula.none", laid_bailment_formula_none), ("bailment/prove.none", laid_bailment_prove_none), ("bailment/prove.kinds", laid_bailment_prove_kinds)], narrowed := true }
def ProveFindsUptoSaid : Prop := proveFindsUptoRow.holds Tryz.pinned (OpenSpec.upto proveFindsSpec)

/-- 'bailmentlaw29.ProveNever', WHERE WHAT IT READS IS OF BULK AT MOST 1048576: true; the input reads as it did. -/
def proveNeverUptoRow : OpenClaim := { program := "ytjimmpldofoimaagreatdoor", sum := "476b27ab10a2b6d5190926872f83e69ef2e1def4d30331577d3fc09c572f2dcc", func := "bailment/bailmentlaw29.ProveNever", spec := "proveNever", inPlace := ["internal/abi.NoEscape", "internal/bytealg.MakeNoZero", "internal/bytealg.IndexByteString", "internal/bytealg.CountString", "internal/bytealg.IndexString"], unfollowed := true, recurses := true, named := ["bailment/prove.none", "bailment/prove.kinds", "internal/strconv.uint64pow10", "math/bits.deBruijn32tab", "math/bits.deBruijn64tab", "unicode/utf8.first", "unicode/utf8.acceptRanges", "internal/bytealg.MaxLen", "bailment/formula.sorts", "bailment/formula.none"], plainKeys := false, apart := false, laid := [("math/bits.deBruijn32tab", laid_math_bits_deBruijn32tab), ("math/bits.deBruijn64tab", laid_math_bits_deBruijn64tab), ("internal/strconv.uint64pow10", laid_internal_strconv_uint64pow10), ("unicode/utf8.acceptRanges", laid_unicode_utf8_acceptRanges), ("bailment/formula.sorts", laid_bailment_formula_sorts), ("bailment/formula.none", laid_bailment_formula_none), ("bailment/prove.none", laid_bailment_prove_none), ("bailment/prove.kinds", laid_bailment_prove_kinds), ("unicode/utf8.first", laid_unicode_utf8_first)], narrowed := true }
def ProveNeverUptoSaid : Prop := proveNeverUptoRow.holds Tryz.pinned (OpenSpec.upto proveNeverSpec)

/-- 'bailmentlaw29.ProveFormulas', WHERE WHAT IT READS IS OF BULK AT MOST 1048576: true; the input reads as it did. -/
def proveFormulasUptoRow : OpenClaim := { program := "ytjimmpldofoimaagreatdoor", sum := "476b27ab10a2b6d5190926872f83e69ef2e1def4d30331577d3fc09c572f2dcc", func := "bailment/bailmentlaw29.ProveFormulas", spec := "proveFormulas", inPlace := ["internal/abi.NoEscape", "internal/bytealg.MakeNoZero"], unfollowed := true, recurses := true, named := ["bailment/prove.none", "bailment/prove.kinds", "internal/strconv.uint64pow10", "math/bits.deBruijn32tab", "math/bits.deBruijn64tab", "bailment/formula.sorts", "bailment/formula.none"], plainKeys := false, apart := false, laid := [("math/bits.deBruijn32tab", laid_math_bits_deBruijn32tab), ("math/bits.deBruijn64tab", laid_math_bits_deBruijn64tab), ("internal/strconv.uint64pow10", laid_internal_strconv_uint64pow10), ("bailment/formula.sorts", laid_bailment_formula_sorts), ("bailment/formula.none", laid_bailment_formula_none), ("bailment/prove.none", laid_bailment_prove_none), ("bailment/prove.kinds", laid_bailment_prove_kinds)], narrowed := true }
def ProveFormulasUptoSaid : Prop := proveFormulasUptoRow.holds Tryz.pinned (OpenSpec.upto proveFormulasSpec)

/-- 'bailmentlaw29.ProveStrings', WHERE WHAT IT READS IS OF BULK AT MOST 1048576: true; the input reads as it did. -/
def proveStringsUptoRow : OpenClaim := { program := "ytjimmpldofoimaagreatdoor", sum := "476b27ab10a2b6d5190926872f83e69ef2e1def4d30331577d3fc09c572f2dcc", func := "bailment/bailmentlaw29.ProveStrings", spec := "proveStrings", inPlace := ["internal/abi.NoEscape", "internal/bytealg.MakeNoZero", "internal/bytealg.IndexByteString", "internal/bytealg.CountString", "internal/bytealg.IndexString"], unfollowed := true, recurses := true, named := ["bailment/prove.none", "bailment/prove.kinds", "internal/strconv.uint64pow10", "math/bits.deBruijn32tab", "math/bits.deBruijn64tab", "unicode/utf8.first", "unicode/utf8.acceptRanges", "internal/bytealg.MaxLen"], plainKeys := false, apart := false, laid := [("math/bits.deBruijn32tab", laid_math_bits_deBruijn32tab), ("math/bits.deBruijn64tab", laid_math_bits_deBruijn64tab), ("internal/strconv.uint64pow10", laid_internal_strconv_uint64pow10), ("unicode/utf8.acceptRanges", laid_unicode_utf8_acceptRanges), ("bailment/prove.none", laid_bailment_prove_none), ("bailment/prove.kinds", laid_bailment_prove_kinds), ("unicode/utf8.first", laid_unicode_utf8_first)], narrowed := true }
def ProveStringsUptoSaid : Prop := proveStringsUptoRow.holds Tryz.pinned (OpenSpec.upto proveStringsSpec)

/-- 'bailmentlaw10.FormulaStrings', WHERE WHAT IT READS IS OF BULK AT MOST 1048576: true; the input reads as it did. -/
def formulaStringsUptoRow : OpenClaim := { program := "ytjimmpldofoimaagreatdoor", sum := "476b27ab10a2b6d5190926872f83e69ef2e1def4d30331577d3fc09c572f2dcc", func := "bailment/bailmentlaw10.FormulaStrings", spec := "formulaStrings", inPlace := ["internal/abi.NoEscape", "internal/bytealg.MakeNoZero", "internal/bytealg.IndexByteString", "internal/bytealg.CountString", "internal/bytealg.IndexString"], unfollowed := true, recurses := true, named := ["bailment/formula.sorts", "bailment/formula.none", "internal/strconv.uint64pow10", "math/bits.deBruijn32tab", "math/bits.deBruijn64tab", "unicode/utf8.first", "unicode/utf8.acceptRanges", "internal/bytealg.MaxLen"], plainKeys := false, apart := false, laid := [("math/bits.deBruijn32tab", laid_math_bits_deBruijn32tab), ("math/bits.deBruijn64tab", laid_math_bits_deBruijn64tab), ("internal/strconv.uint64pow10", laid_internal_strconv_uint64pow10), ("unicode/utf8.acceptRanges", laid_unicode_utf8_acceptRanges), ("bailment/formula.sorts", laid_bailment_formula_sorts), ("bailment/formula.none", laid_bailment_formula_none), ("unicode/utf8.first", laid_unicode_utf8_first)], narrowed := true }
def FormulaStringsUptoSaid : Prop := formulaStringsUptoRow.holds Tryz.pinned (OpenSpec.upto formulaStringsSpec)

/-- 'bailmentlaw10.FormulaMoves', WHERE WHAT IT READS IS OF BULK AT MOST 1048576: true; the input reads as it did. -/
def formulaMovesUptoRow : OpenClaim := { program := "ytjimmpldofoimaagreatdoor", sum := "476b27ab10a2b6d5190926872f83e69ef2e1def4d30331577d3fc09c572f2dcc", func := "bailment/bailmentlaw10.FormulaMoves", spec := "formulaMoves", inPlace := ["internal/abi.NoEscape", "internal/bytealg.MakeNoZero", "internal/bytealg.IndexByteString", "internal/bytealg.CountString", "internal/bytealg.IndexString"], unfollowed := true, recurses := true, named := ["bailment/formula.sorts", "bailment/formula.none", "internal/strconv.uint64pow10", "math/bits.deBruijn32tab", "math/bits.deBruijn64tab", "unicode/utf8.first", "unicode/utf8.acceptRanges", "internal/bytealg.MaxLen"], plainKeys := false, apart := false, laid := [("math/bits.deBruijn32tab", laid_math_bits_deBruijn32tab), ("math/bits.deBruijn64tab", laid_math_bits_deBruijn64tab), ("internal/strconv.uint64pow10", laid_internal_strconv_uint64pow10), ("unicode/utf8.acceptRanges", laid_unicode_utf8_acceptRanges), ("bailment/formula.sorts", laid_bailment_formula_sorts), ("bailment/formula.none", laid_bailment_formula_none), ("unicode/utf8.first", laid_unicode_utf8_first)], narrowed := true }
def FormulaMovesUptoSaid : Prop := formulaMovesUptoRow.holds Tryz.pinned (OpenSpec.upto formulaMovesSpec)

end Rows
end Go.Proofs.YtjimmpldofoimaaGreatDoor
