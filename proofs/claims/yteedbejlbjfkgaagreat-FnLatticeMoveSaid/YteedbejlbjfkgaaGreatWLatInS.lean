/- Contracts of the reference's LatticeIn. -/
import Derived.Test.YteedbejlbjfkgaaGreatWLatIn
import Derived.Test.YteedbejlbjfkgaaGreatPl
set_option linter.unusedVariables false
namespace Go.Proofs.YteedbejlbjfkgaaGreat
open Go.RowKit Res

end Go.Proofs.YteedbejlbjfkgaaGreat
