/- Contracts of the draws of vectors that need no octad. -/
import Derived.Test.YteedbejlbjfkgaaGreatWRdW
import Derived.Test.YteedbejlbjfkgaaGreatWDrawRes
set_option linter.unusedVariables false
namespace Go.Proofs.YteedbejlbjfkgaaGreat
open Go.RowKit Res




end Go.Proofs.YteedbejlbjfkgaaGreat
