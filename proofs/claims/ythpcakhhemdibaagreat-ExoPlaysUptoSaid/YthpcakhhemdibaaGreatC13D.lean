/-
  exo: a call that answers an error changes nothing that anybody sees.
-/
import Derived.Test.YthpcakhhemdibaaGreatC13S
set_option linter.unusedVariables false
set_option linter.unusedSimpArgs false
namespace Go.Proofs
open Go Go.Den

end Go.Proofs
