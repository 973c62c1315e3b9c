/-
  No cell of these rows narrows 'for every input' (looked for: loops, veiled, ifaces, maps, wideKeys, modest, calm, conditions, laid).
  DERIVED. THE GIVEN ROWS OF THIS SEAT. 6 by the template 'for every input the law returns true; each argument reads behind the call as it read before'; 0 by the template 'total and deterministic' (their statements: YtmnfbdbpanlchaaTotals.lean).
  GIVEN WITH THE SEED: the statements are not yours to turn. If you find one false, say at which input.
  Laid BY PROGRAM, IN A SANDBOX (cutbox-rows.mjs): the forced cells as the released guide's own fill.sh prints them over the translation c1ca6898975132e6… (all of the seat's roots in one cut). By AI agents, Wed Nov 11 2026. No macro, syntax, notation, axiom, sorry.
-/
import Derived.Test.YtmnfbdbpanlchaaChecked
import GoSem.Claim
import GoSem.ClaimJoined
import GoSem.ClaimMapViews
import Derived.JoinedTies
import Derived.KernelRfl
namespace Go.Proofs.Ytmnfbdbpanlchaa
/- THE CELL 'sum', in the pinned program and in every row, IS THE sha256 OF THE DUMP (.gsa) THAT YtmnfbdbpanlchaaProg.lean LOADS. Nothing in Lean hashes anything: it is a label: what it is worth is what the hold of that sum in a sandbox is worth. -/
noncomputable def Try.pinned : Pinned := { name := "ytmnfbdbpanlchaa", sum := "c1ca6898975132e6ea276f3962df11a5f3a0e385e43a9d09a962e1e1f87118ef", checked := Try.checked }
namespace Rows
def none {H : Type} : Left H := { results := [], args := [] }

/-- 'laws.FnExactResidueSquare': WHATEVER THE INPUT: true; the input reads as it did. -/
def fnExactResidueSquareSpec : ChangeSpec := { name := "fnExactResidueSquare", fn := fun _ => fun
  | [d] => { results := [.lit (.bool true)], args := [d] }
  | _ => none }
def fnExactResidueSquareRow : OpenClaim := { program := "ytmnfbdbpanlchaa", sum := "c1ca6898975132e6ea276f3962df11a5f3a0e385e43a9d09a962e1e1f87118ef", func := "loop.example/golayoctads/laws.FnExactResidueSquare", spec := "fnExactResidueSquare", apart := false }
def FnExactResidueSquareSaid : Prop := fnExactResidueSquareRow.holds Try.pinned (OpenSpec.ofChange fnExactResidueSquareSpec)

/-- ITS FALSE NEIGHBOUR: 'it returns false'. Refute it at one input. -/
def fnExactResidueSquareWrong : ChangeSpec := { name := "fnExactResidueSquare", fn := fun _ => fun
  | [d] => { results := [.lit (.bool false)], args := [d] }
  | _ => none }
def FnExactResidueSquareWrongFalsely : Prop := fnExactResidueSquareRow.holds Try.pinned (OpenSpec.ofChange fnExactResidueSquareWrong)

/-- 'laws.FnExactResidueTurned': WHATEVER THE INPUT: true; the input reads as it did. -/
def fnExactResidueTurnedSpec : ChangeSpec := { name := "fnExactResidueTurned", fn := fun _ => fun
  | [d] => { results := [.lit (.bool true)], args := [d] }
  | _ => none }
def fnExactResidueTurnedRow : OpenClaim := { program := "ytmnfbdbpanlchaa", sum := "c1ca6898975132e6ea276f3962df11a5f3a0e385e43a9d09a962e1e1f87118ef", func := "loop.example/golayoctads/laws.FnExactResidueTurned", spec := "fnExactResidueTurned", apart := false }
def FnExactResidueTurnedSaid : Prop := fnExactResidueTurnedRow.holds Try.pinned (OpenSpec.ofChange fnExactResidueTurnedSpec)

/-- ITS FALSE NEIGHBOUR: 'it returns false'. Refute it at one input. -/
def fnExactResidueTurnedWrong : ChangeSpec := { name := "fnExactResidueTurned", fn := fun _ => fun
  | [d] => { results := [.lit (.bool false)], args := [d] }
  | _ => none }
def FnExactResidueTurnedWrongFalsely : Prop := fnExactResidueTurnedRow.holds Try.pinned (OpenSpec.ofChange fnExactResidueTurnedWrong)

/-- 'laws.FnExactVectorValid': WHATEVER THE INPUT: true; the input reads as it did. -/
def fnExactVectorValidSpec : ChangeSpec := { name := "fnExactVectorValid", fn := fun _ => fun
  | [d] => { results := [.lit (.bool true)], args := [d] }
  | _ => none }
def fnExactVectorValidRow : OpenClaim := { program := "ytmnfbdbpanlchaa", sum := "c1ca6898975132e6ea276f3962df11a5f3a0e385e43a9d09a962e1e1f87118ef", func := "loop.example/golayoctads/laws.FnExactVectorValid", spec := "fnExactVectorValid", apart := false }
def FnExactVectorValidSaid : Prop := fnExactVectorValidRow.holds Try.pinned (OpenSpec.ofChange fnExactVectorValidSpec)

/-- ITS FALSE NEIGHBOUR: 'it returns false'. Refute it at one input. -/
def fnExactVectorValidWrong : ChangeSpec := { name := "fnExactVectorValid", fn := fun _ => fun
  | [d] => { results := [.lit (.bool false)], args := [d] }
  | _ => none }
def FnExactVectorValidWrongFalsely : Prop := fnExactVectorValidRow.holds Try.pinned (OpenSpec.ofChange fnExactVectorValidWrong)

/-- 'laws.FnSquare': WHATEVER THE INPUT: true; the input reads as it did. -/
def fnSquareSpec : ChangeSpec := { name := "fnSquare", fn := fun _ => fun
  | [d] => { results := [.lit (.bool true)], args := [d] }
  | _ => none }
def fnSquareRow : OpenClaim := { program := "ytmnfbdbpanlchaa", sum := "c1ca6898975132e6ea276f3962df11a5f3a0e385e43a9d09a962e1e1f87118ef", func := "loop.example/golayoctads/laws.FnSquare", spec := "fnSquare", apart := false }
def FnSquareSaid : Prop := fnSquareRow.holds Try.pinned (OpenSpec.ofChange fnSquareSpec)

/-- ITS FALSE NEIGHBOUR: 'it returns false'. Refute it at one input. -/
def fnSquareWrong : ChangeSpec := { name := "fnSquare", fn := fun _ => fun
  | [d] => { results := [.lit (.bool false)], args := [d] }
  | _ => none }
def FnSquareWrongFalsely : Prop := fnSquareRow.holds Try.pinned (OpenSpec.ofChange fnSquareWrong)

/-- 'laws.FnExactLineWord': WHATEVER THE INPUT: true; the input reads as it did. -/
def fnExactLineWordSpec : ChangeSpec := { name := "fnExactLineWord", fn := fun _ => fun
  | [d] => { results := [.lit (.bool true)], args := [d] }
  | _ => none }
def fnExactLineWordRow : OpenClaim := { program := "ytmnfbdbpanlchaa", sum := "c1ca6898975132e6ea276f3962df11a5f3a0e385e43a9d09a962e1e1f87118ef", func := "loop.example/golayoctads/laws.FnExactLineWord", spec := "fnExactLineWord", apart := false }
def FnExactLineWordSaid : Prop := fnExactLineWordRow.holds Try.pinned (OpenSpec.ofChange fnExactLineWordSpec)

/-- ITS FALSE NEIGHBOUR: 'it returns false'. Refute it at one input. -/
def fnExactLineWordWrong : ChangeSpec := { name := "fnExactLineWord", fn := fun _ => fun
  | [d] => { results := [.lit (.bool false)], args := [d] }
  | _ => none }
def FnExactLineWordWrongFalsely : Prop := fnExactLineWordRow.holds Try.pinned (OpenSpec.ofChange fnExactLineWordWrong)

/-- 'laws.FnExactLatticeInner': WHATEVER THE INPUT: true; the input reads as it did. -/
def fnExactLatticeInnerSpec : ChangeSpec := { name := "fnExactLatticeInner", fn := fun _ => fun
  | [d1, d2] => { results := [.lit (.bool true)], args := [d1, d2] }
  | _ => none }
def fnExactLatticeInnerRow : OpenClaim := { program := "ytmnfbdbpanlchaa", sum := "c1ca6898975132e6ea276f3962df11a5f3a0e385e43a9d09a962e1e1f87118ef", func := "loop.example/golayoctads/laws.FnExactLatticeInner", spec := "fnExactLatticeInner", apart := false }
def FnExactLatticeInnerSaid : Prop := fnExactLatticeInnerRow.holds Try.pinned (OpenSpec.ofChange fnExactLatticeInnerSpec)

/-- ITS FALSE NEIGHBOUR: 'it returns false'. Refute it at one input. -/
def fnExactLatticeInnerWrong : ChangeSpec := { name := "fnExactLatticeInner", fn := fun _ => fun
  | [d1, d2] => { results := [.lit (.bool false)], args := [d1, d2] }
  | _ => none }
def FnExactLatticeInnerWrongFalsely : Prop := fnExactLatticeInnerRow.holds Try.pinned (OpenSpec.ofChange fnExactLatticeInnerWrong)

/- THE SECOND FORM. 'bulk': how many values and letters a reading holds, each counted each time it is reached (what is shared counts as often as it is met; a slice's spare places count too). A statement '..UptoSaid' is the law's where the arguments, and the package variables that the reading takes, are together of bulk at most 1048576: NARROWER than '..Said'. Prove '..Said' where nothing that the law and all that it calls make is longer than what came in: it says more and counts as full. Else prove '..UptoSaid'. A law counts once. -/
mutual
def uptoBulk {H : Type} : DataW H → Nat
  | .lit (.string bytes) => bytes.length + 1
  | .lit _ => 1
  | .nil => 1
  | .ptr d => uptoBulk d + 1
  | .slice elems spare => uptoBulkAll elems + uptoBulkAll spare + 1
  | .agg parts => uptoBulkAll parts + 1
  | .iface _ d => uptoBulk d + 1
  | .map entries => uptoBulkEntries entries + 1
  | .held _ => 1
def uptoBulkAll {H : Type} : List (DataW H) → Nat
  | [] => 0
  | d :: r => uptoBulk d + uptoBulkAll r
def uptoBulkEntries {H : Type} : List (Lit × DataW H) → Nat
  | [] => 0
  | x :: r => uptoBulkEntry x + uptoBulkEntries r
def uptoBulkEntry {H : Type} : Lit × DataW H → Nat
  | (.string bytes, d) => bytes.length + uptoBulk d + 1
  | (_, d) => uptoBulk d + 1
 end
def uptoSmall : (H : Type) → List (DataW H) → Bool := fun _ ds => decide (uptoBulkAll ds ≤ 1048576)
def OpenSpec.upto (s : _root_.Go.ChangeSpec) : _root_.Go.OpenSpec := { _root_.Go.OpenSpec.ofChange s with cond := some uptoSmall }

/-- 'laws.FnExactResidueSquare', WHERE WHAT IT READS IS OF BULK AT MOST 1048576: true; the input reads as it did. -/
def fnExactResidueSquareUptoRow : OpenClaim := { program := "ytmnfbdbpanlchaa", sum := "c1ca6898975132e6ea276f3962df11a5f3a0e385e43a9d09a962e1e1f87118ef", func := "loop.example/golayoctads/laws.FnExactResidueSquare", spec := "fnExactResidueSquare", apart := false, narrowed := true }
def FnExactResidueSquareUptoSaid : Prop := fnExactResidueSquareUptoRow.holds Try.pinned (OpenSpec.upto fnExactResidueSquareSpec)

/-- 'laws.FnExactResidueTurned', WHERE WHAT IT READS IS OF BULK AT MOST 1048576: true; the input reads as it did. -/
def fnExactResidueTurnedUptoRow : OpenClaim := { program := "ytmnfbdbpanlchaa", sum := "c1ca6898975132e6ea276f3962df11a5f3a0e385e43a9d09a962e1e1f87118ef", func := "loop.example/golayoctads/laws.FnExactResidueTurned", spec := "fnExactResidueTurned", apart := false, narrowed := true }
def FnExactResidueTurnedUptoSaid : Prop := fnExactResidueTurnedUptoRow.holds Try.pinned (OpenSpec.upto fnExactResidueTurnedSpec)

/-- 'laws.FnExactVectorValid', WHERE WHAT IT READS IS OF BULK AT MOST 1048576: true; the input reads as it did. -/
def fnExactVectorValidUptoRow : OpenClaim := { program := "ytmnfbdbpanlchaa", sum := "c1ca6898975132e6ea276f3962df11a5f3a0e385e43a9d09a962e1e1f87118ef", func := "loop.example/golayoctads/laws.FnExactVectorValid", spec := "fnExactVectorValid", apart := false, narrowed := true }
def FnExactVectorValidUptoSaid : Prop := fnExactVectorValidUptoRow.holds Try.pinned (OpenSpec.upto fnExactVectorValidSpec)

/-- 'laws.FnSquare', WHERE WHAT IT READS IS OF BULK AT MOST 1048576: true; the input reads as it did. -/
def fnSquareUptoRow : OpenClaim := { program := "ytmnfbdbpanlchaa", sum := "c1ca6898975132e6ea276f3962df11a5f3a0e385e43a9d09a962e1e1f87118ef", func := "loop.example/golayoctads/laws.FnSquare", spec := "fnSquare", apart := false, narrowed := true }
def FnSquareUptoSaid : Prop := fnSquareUptoRow.holds Try.pinned (OpenSpec.upto fnSquareSpec)

/-- 'laws.FnExactLineWord', WHERE WHAT IT READS IS OF BULK AT MOST 1048576: true; the input reads as it did. -/
def fnExactLineWordUptoRow : OpenClaim := { program := "ytmnfbdbpanlchaa", sum := "c1ca6898975132e6ea276f3962df11a5f3a0e385e43a9d09a962e1e1f87118ef", func := "loop.example/golayoctads/laws.FnExactLineWord", spec := "fnExactLineWord", apart := false, narrowed := true }
def FnExactLineWordUptoSaid : Prop := fnExactLineWordUptoRow.holds Try.pinned (OpenSpec.upto fnExactLineWordSpec)

/-- 'laws.FnExactLatticeInner', WHERE WHAT IT READS IS OF BULK AT MOST 1048576: true; the input reads as it did. -/
def fnExactLatticeInnerUptoRow : OpenClaim := { program := "ytmnfbdbpanlchaa", sum := "c1ca6898975132e6ea276f3962df11a5f3a0e385e43a9d09a962e1e1f87118ef", func := "loop.example/golayoctads/laws.FnExactLatticeInner", spec := "fnExactLatticeInner", apart := false, narrowed := true }
def FnExactLatticeInnerUptoSaid : Prop := fnExactLatticeInnerUptoRow.holds Try.pinned (OpenSpec.upto fnExactLatticeInnerSpec)

end Rows
end Go.Proofs.Ytmnfbdbpanlchaa
