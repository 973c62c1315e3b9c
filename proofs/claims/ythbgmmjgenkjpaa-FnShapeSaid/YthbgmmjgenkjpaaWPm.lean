/- Contracts of PermValid. -/
import Derived.Test.YthbgmmjgenkjpaaWWd
import Derived.Test.YthbgmmjgenkjpaaPm
set_option linter.unusedVariables false
namespace Go.Proofs.Ythbgmmjgenkjpaa
open Go.RowKit Res

/-- What WordOf answers. -/
def wordOfV (l : List Int) : Value := if diff l then .tuple #[.int .i64 (mk l l.length : Nat), .bool true] else .tuple #[.int .i64 0, .bool false]

end Go.Proofs.Ythbgmmjgenkjpaa
