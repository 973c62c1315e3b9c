/- Contracts of LatticeAdd. -/
import Derived.Test.YteedbejlbjfkgaaGreatWLatInS
import Derived.Test.YteedbejlbjfkgaaGreatMk
import Derived.Deep.RegionLaw
set_option linter.unusedVariables false
namespace Go.Proofs.YteedbejlbjfkgaaGreat
open Go.RowKit Res

/-- Is a list a vector of the lattice? -/
def latOk (l : List Int) : Bool := vecOk l && latB l

theorem implLatticeIn_any (a : Option Addr) (cap : Nat) (l : List Int) (w : World) (hl : l.length ≤ 9223372036854775807) (hr : Reads .i64 w a l) :
    Calls Tryz.prog 11 #[.slice a l.length cap] w fun e w' => e = .returned (.bool (latOk l)) ∧ Below w.heap.size w w' := by
  unfold latOk
  cases hv : vecOk l
  · refine (implLatticeIn_no a cap l w hl hr hv).mono ?_
    rintro e w' ⟨rfl, rfl⟩
    exact ⟨rfl, Below.refl _ _⟩
  · rw [Bool.true_and]
    exact implLatticeIn_ok a cap l w hr hv
end Go.Proofs.YteedbejlbjfkgaaGreat
