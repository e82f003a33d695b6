/- Put of the reference: each term of a formula is made of the terms put in. -/
import Derived.Test.YtjimmpldofoimaaGreatDoorLb
import Derived.Test.YtjimmpldofoimaaGreatDoorXq
set_option linter.unusedVariables false
set_option linter.unusedSimpArgs false
namespace Go.AL
open Go.Proofs
variable {Γ : Glob}
attribute [local irreducible] codeW opsW dopsW
def put56 (f : Fm) (terms : List Tm) : Fm × Int := match putNs terms (varsT terms) f.nodes [] with
  | some l => (⟨varsT terms, l⟩, 0)
  | none => (fm0, 4)
end Go.AL
