/-
  Plain lemmas on functions that write marks and look for them again. No conditions.
-/
import Derived.Test.YtphpkphklegfeaaKzd
set_option linter.unusedVariables false
set_option linter.unusedSimpArgs false
namespace Go.Proofs.Ytphpkphklegfeaa.K
end Go.Proofs.Ytphpkphklegfeaa.K

