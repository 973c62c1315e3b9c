/-
  No cell of these rows narrows 'for every input' (looked for: loops, veiled, ifaces, maps, wideKeys, modest, calm, conditions, laid).
  DERIVED. THE GIVEN ROWS OF THIS SEAT. 12 by the template 'for every input the law returns true; each argument reads behind the call as it read before'; 0 by the template 'total and deterministic' (their statements: YtdniiohbalohlaaTotals.lean).
  GIVEN WITH THE SEED: the statements are not yours to turn. If you find one false, say at which input.
  Laid BY PROGRAM, IN A SANDBOX (cutbox-rows.mjs): the forced cells as the released guide's own fill.sh prints them over the translation 8162b9ee5ebccf2c… (all of the seat's roots in one cut). By AI agents, Wed Nov 11 2026. No macro, syntax, notation, axiom, sorry.
-/
import Derived.Test.YtdniiohbalohlaaChecked
import GoSem.Claim
import GoSem.ClaimJoined
import GoSem.ClaimMapViews
import Derived.JoinedTies
import Derived.KernelRfl
namespace Go.Proofs.Ytdniiohbalohlaa
/- THE CELL 'sum', in the pinned program and in every row, IS THE sha256 OF THE DUMP (.gsa) THAT YtdniiohbalohlaaProg.lean LOADS. Nothing in Lean hashes anything: it is a label: what it is worth is what the hold of that sum in a sandbox is worth. -/
noncomputable def Try.pinned : Pinned := { name := "ytdniiohbalohlaa", sum := "8162b9ee5ebccf2c8ac191c150150812000906b1b07749f2b8dd5aea7d10a172", checked := Try.checked }
namespace Rows
def none {H : Type} : Left H := { results := [], args := [] }

/-- 'laws.FnExactResidueSquare': WHATEVER THE INPUT: true; the input reads as it did. -/
def fnExactResidueSquareSpec : ChangeSpec := { name := "fnExactResidueSquare", fn := fun _ => fun
  | [d] => { results := [.lit (.bool true)], args := [d] }
  | _ => none }
def fnExactResidueSquareRow : OpenClaim := { program := "ytdniiohbalohlaa", sum := "8162b9ee5ebccf2c8ac191c150150812000906b1b07749f2b8dd5aea7d10a172", func := "loop.example/golayoctads/laws.FnExactResidueSquare", spec := "fnExactResidueSquare", apart := false }
def FnExactResidueSquareSaid : Prop := fnExactResidueSquareRow.holds Try.pinned (OpenSpec.ofChange fnExactResidueSquareSpec)

/-- ITS FALSE NEIGHBOUR: 'it returns false'. Refute it at one input. -/
def fnExactResidueSquareWrong : ChangeSpec := { name := "fnExactResidueSquare", fn := fun _ => fun
  | [d] => { results := [.lit (.bool false)], args := [d] }
  | _ => none }
def FnExactResidueSquareWrongFalsely : Prop := fnExactResidueSquareRow.holds Try.pinned (OpenSpec.ofChange fnExactResidueSquareWrong)

/-- 'laws.FnExactResidueTurned': WHATEVER THE INPUT: true; the input reads as it did. -/
def fnExactResidueTurnedSpec : ChangeSpec := { name := "fnExactResidueTurned", fn := fun _ => fun
  | [d] => { results := [.lit (.bool true)], args := [d] }
  | _ => none }
def fnExactResidueTurnedRow : OpenClaim := { program := "ytdniiohbalohlaa", sum := "8162b9ee5ebccf2c8ac191c150150812000906b1b07749f2b8dd5aea7d10a172", func := "loop.example/golayoctads/laws.FnExactResidueTurned", spec := "fnExactResidueTurned", apart := false }
def FnExactResidueTurnedSaid : Prop := fnExactResidueTurnedRow.holds Try.pinned (OpenSpec.ofChange fnExactResidueTurnedSpec)

/-- ITS FALSE NEIGHBOUR: 'it returns false'. Refute it at one input. -/
def fnExactResidueTurnedWrong : ChangeSpec := { name := "fnExactResidueTurned", fn := fun _ => fun
  | [d] => { results := [.lit (.bool false)], args := [d] }
  | _ => none }
def FnExactResidueTurnedWrongFalsely : Prop := fnExactResidueTurnedRow.holds Try.pinned (OpenSpec.ofChange fnExactResidueTurnedWrong)

/-- 'laws.FnSquare': WHATEVER THE INPUT: true; the input reads as it did. -/
def fnSquareSpec : ChangeSpec := { name := "fnSquare", fn := fun _ => fun
  | [d] => { results := [.lit (.bool true)], args := [d] }
  | _ => none }
def fnSquareRow : OpenClaim := { program := "ytdniiohbalohlaa", sum := "8162b9ee5ebccf2c8ac191c150150812000906b1b07749f2b8dd5aea7d10a172", func := "loop.example/golayoctads/laws.FnSquare", spec := "fnSquare", apart := false }
def FnSquareSaid : Prop := fnSquareRow.holds Try.pinned (OpenSpec.ofChange fnSquareSpec)

/-- ITS FALSE NEIGHBOUR: 'it returns false'. Refute it at one input. -/
def fnSquareWrong : ChangeSpec := { name := "fnSquare", fn := fun _ => fun
  | [d] => { results := [.lit (.bool false)], args := [d] }
  | _ => none }
def FnSquareWrongFalsely : Prop := fnSquareRow.holds Try.pinned (OpenSpec.ofChange fnSquareWrong)

/-- 'laws.FnExactLineWord': WHATEVER THE INPUT: true; the input reads as it did. -/
def fnExactLineWordSpec : ChangeSpec := { name := "fnExactLineWord", fn := fun _ => fun
  | [d] => { results := [.lit (.bool true)], args := [d] }
  | _ => none }
def fnExactLineWordRow : OpenClaim := { program := "ytdniiohbalohlaa", sum := "8162b9ee5ebccf2c8ac191c150150812000906b1b07749f2b8dd5aea7d10a172", func := "loop.example/golayoctads/laws.FnExactLineWord", spec := "fnExactLineWord", apart := false }
def FnExactLineWordSaid : Prop := fnExactLineWordRow.holds Try.pinned (OpenSpec.ofChange fnExactLineWordSpec)

/-- ITS FALSE NEIGHBOUR: 'it returns false'. Refute it at one input. -/
def fnExactLineWordWrong : ChangeSpec := { name := "fnExactLineWord", fn := fun _ => fun
  | [d] => { results := [.lit (.bool false)], args := [d] }
  | _ => none }
def FnExactLineWordWrongFalsely : Prop := fnExactLineWordRow.holds Try.pinned (OpenSpec.ofChange fnExactLineWordWrong)

/-- 'laws.FnResidueTurned': WHATEVER THE INPUT: true; the input reads as it did. -/
def fnResidueTurnedSpec : ChangeSpec := { name := "fnResidueTurned", fn := fun _ => fun
  | [d] => { results := [.lit (.bool true)], args := [d] }
  | _ => none }
def fnResidueTurnedRow : OpenClaim := { program := "ytdniiohbalohlaa", sum := "8162b9ee5ebccf2c8ac191c150150812000906b1b07749f2b8dd5aea7d10a172", func := "loop.example/golayoctads/laws.FnResidueTurned", spec := "fnResidueTurned", apart := false }
def FnResidueTurnedSaid : Prop := fnResidueTurnedRow.holds Try.pinned (OpenSpec.ofChange fnResidueTurnedSpec)

/-- ITS FALSE NEIGHBOUR: 'it returns false'. Refute it at one input. -/
def fnResidueTurnedWrong : ChangeSpec := { name := "fnResidueTurned", fn := fun _ => fun
  | [d] => { results := [.lit (.bool false)], args := [d] }
  | _ => none }
def FnResidueTurnedWrongFalsely : Prop := fnResidueTurnedRow.holds Try.pinned (OpenSpec.ofChange fnResidueTurnedWrong)

/-- 'laws.FnExactLineSum': WHATEVER THE INPUT: true; the input reads as it did. -/
def fnExactLineSumSpec : ChangeSpec := { name := "fnExactLineSum", fn := fun _ => fun
  | [d] => { results := [.lit (.bool true)], args := [d] }
  | _ => none }
def fnExactLineSumRow : OpenClaim := { program := "ytdniiohbalohlaa", sum := "8162b9ee5ebccf2c8ac191c150150812000906b1b07749f2b8dd5aea7d10a172", func := "loop.example/golayoctads/laws.FnExactLineSum", spec := "fnExactLineSum", apart := false }
def FnExactLineSumSaid : Prop := fnExactLineSumRow.holds Try.pinned (OpenSpec.ofChange fnExactLineSumSpec)

/-- ITS FALSE NEIGHBOUR: 'it returns false'. Refute it at one input. -/
def fnExactLineSumWrong : ChangeSpec := { name := "fnExactLineSum", fn := fun _ => fun
  | [d] => { results := [.lit (.bool false)], args := [d] }
  | _ => none }
def FnExactLineSumWrongFalsely : Prop := fnExactLineSumRow.holds Try.pinned (OpenSpec.ofChange fnExactLineSumWrong)

/-- 'laws.FnExactLineMove': WHATEVER THE INPUT: true; the input reads as it did. -/
def fnExactLineMoveSpec : ChangeSpec := { name := "fnExactLineMove", fn := fun _ => fun
  | [d1, d2, d3, d4, d5] => { results := [.lit (.bool true)], args := [d1, d2, d3, d4, d5] }
  | _ => none }
def fnExactLineMoveRow : OpenClaim := { program := "ytdniiohbalohlaa", sum := "8162b9ee5ebccf2c8ac191c150150812000906b1b07749f2b8dd5aea7d10a172", func := "loop.example/golayoctads/laws.FnExactLineMove", spec := "fnExactLineMove", apart := false }
def FnExactLineMoveSaid : Prop := fnExactLineMoveRow.holds Try.pinned (OpenSpec.ofChange fnExactLineMoveSpec)

/-- ITS FALSE NEIGHBOUR: 'it returns false'. Refute it at one input. -/
def fnExactLineMoveWrong : ChangeSpec := { name := "fnExactLineMove", fn := fun _ => fun
  | [d1, d2, d3, d4, d5] => { results := [.lit (.bool false)], args := [d1, d2, d3, d4, d5] }
  | _ => none }
def FnExactLineMoveWrongFalsely : Prop := fnExactLineMoveRow.holds Try.pinned (OpenSpec.ofChange fnExactLineMoveWrong)

/-- 'laws.FnExactLineIn': WHATEVER THE INPUT: true; the input reads as it did. -/
def fnExactLineInSpec : ChangeSpec := { name := "fnExactLineIn", fn := fun _ => fun
  | [d] => { results := [.lit (.bool true)], args := [d] }
  | _ => none }
def fnExactLineInRow : OpenClaim := { program := "ytdniiohbalohlaa", sum := "8162b9ee5ebccf2c8ac191c150150812000906b1b07749f2b8dd5aea7d10a172", func := "loop.example/golayoctads/laws.FnExactLineIn", spec := "fnExactLineIn", unfollowed := true, recurses := true, apart := false }
def FnExactLineInSaid : Prop := fnExactLineInRow.holds Try.pinned (OpenSpec.ofChange fnExactLineInSpec)

/-- ITS FALSE NEIGHBOUR: 'it returns false'. Refute it at one input. -/
def fnExactLineInWrong : ChangeSpec := { name := "fnExactLineIn", fn := fun _ => fun
  | [d] => { results := [.lit (.bool false)], args := [d] }
  | _ => none }
def FnExactLineInWrongFalsely : Prop := fnExactLineInRow.holds Try.pinned (OpenSpec.ofChange fnExactLineInWrong)

/-- 'laws.FnExactLinePerm': WHATEVER THE INPUT: true; the input reads as it did. -/
def fnExactLinePermSpec : ChangeSpec := { name := "fnExactLinePerm", fn := fun _ => fun
  | [d1, d2, d3, d4] => { results := [.lit (.bool true)], args := [d1, d2, d3, d4] }
  | _ => none }
def fnExactLinePermRow : OpenClaim := { program := "ytdniiohbalohlaa", sum := "8162b9ee5ebccf2c8ac191c150150812000906b1b07749f2b8dd5aea7d10a172", func := "loop.example/golayoctads/laws.FnExactLinePerm", spec := "fnExactLinePerm", apart := false }
def FnExactLinePermSaid : Prop := fnExactLinePermRow.holds Try.pinned (OpenSpec.ofChange fnExactLinePermSpec)

/-- ITS FALSE NEIGHBOUR: 'it returns false'. Refute it at one input. -/
def fnExactLinePermWrong : ChangeSpec := { name := "fnExactLinePerm", fn := fun _ => fun
  | [d1, d2, d3, d4] => { results := [.lit (.bool false)], args := [d1, d2, d3, d4] }
  | _ => none }
def FnExactLinePermWrongFalsely : Prop := fnExactLinePermRow.holds Try.pinned (OpenSpec.ofChange fnExactLinePermWrong)

/-- 'laws.FnMove': WHATEVER THE INPUT: true; the input reads as it did. -/
def fnMoveSpec : ChangeSpec := { name := "fnMove", fn := fun _ => fun
  | [d] => { results := [.lit (.bool true)], args := [d] }
  | _ => none }
def fnMoveRow : OpenClaim := { program := "ytdniiohbalohlaa", sum := "8162b9ee5ebccf2c8ac191c150150812000906b1b07749f2b8dd5aea7d10a172", func := "loop.example/golayoctads/laws.FnMove", spec := "fnMove", apart := false }
def FnMoveSaid : Prop := fnMoveRow.holds Try.pinned (OpenSpec.ofChange fnMoveSpec)

/-- ITS FALSE NEIGHBOUR: 'it returns false'. Refute it at one input. -/
def fnMoveWrong : ChangeSpec := { name := "fnMove", fn := fun _ => fun
  | [d] => { results := [.lit (.bool false)], args := [d] }
  | _ => none }
def FnMoveWrongFalsely : Prop := fnMoveRow.holds Try.pinned (OpenSpec.ofChange fnMoveWrong)

/-- 'laws.FnLineSum': WHATEVER THE INPUT: true; the input reads as it did. -/
def fnLineSumSpec : ChangeSpec := { name := "fnLineSum", fn := fun _ => fun
  | [d] => { results := [.lit (.bool true)], args := [d] }
  | _ => none }
def fnLineSumRow : OpenClaim := { program := "ytdniiohbalohlaa", sum := "8162b9ee5ebccf2c8ac191c150150812000906b1b07749f2b8dd5aea7d10a172", func := "loop.example/golayoctads/laws.FnLineSum", spec := "fnLineSum", unfollowed := true, recurses := true, apart := false }
def FnLineSumSaid : Prop := fnLineSumRow.holds Try.pinned (OpenSpec.ofChange fnLineSumSpec)

/-- ITS FALSE NEIGHBOUR: 'it returns false'. Refute it at one input. -/
def fnLineSumWrong : ChangeSpec := { name := "fnLineSum", fn := fun _ => fun
  | [d] => { results := [.lit (.bool false)], args := [d] }
  | _ => none }
def FnLineSumWrongFalsely : Prop := fnLineSumRow.holds Try.pinned (OpenSpec.ofChange fnLineSumWrong)

/-- 'laws.FnLineIn': WHATEVER THE INPUT: true; the input reads as it did. -/
def fnLineInSpec : ChangeSpec := { name := "fnLineIn", fn := fun _ => fun
  | [d] => { results := [.lit (.bool true)], args := [d] }
  | _ => none }
def fnLineInRow : OpenClaim := { program := "ytdniiohbalohlaa", sum := "8162b9ee5ebccf2c8ac191c150150812000906b1b07749f2b8dd5aea7d10a172", func := "loop.example/golayoctads/laws.FnLineIn", spec := "fnLineIn", unfollowed := true, recurses := true, apart := false }
def FnLineInSaid : Prop := fnLineInRow.holds Try.pinned (OpenSpec.ofChange fnLineInSpec)

/-- ITS FALSE NEIGHBOUR: 'it returns false'. Refute it at one input. -/
def fnLineInWrong : ChangeSpec := { name := "fnLineIn", fn := fun _ => fun
  | [d] => { results := [.lit (.bool false)], args := [d] }
  | _ => none }
def FnLineInWrongFalsely : Prop := fnLineInRow.holds Try.pinned (OpenSpec.ofChange fnLineInWrong)

/- THE SECOND FORM. 'bulk': how many values and letters a reading holds, each counted each time it is reached (what is shared counts as often as it is met; a slice's spare places count too). A statement '..UptoSaid' is the law's where the arguments, and the package variables that the reading takes, are together of bulk at most 1048576: NARROWER than '..Said'. Prove '..Said' where nothing that the law and all that it calls make is longer than what came in: it says more and counts as full. Else prove '..UptoSaid'. A law counts once. -/
mutual
def uptoBulk {H : Type} : DataW H → Nat
  | .lit (.string bytes) => bytes.length + 1
  | .lit _ => 1
  | .nil => 1
  | .ptr d => uptoBulk d + 1
  | .slice elems spare => uptoBulkAll elems + uptoBulkAll spare + 1
  | .agg parts => uptoBulkAll parts + 1
  | .iface _ d => uptoBulk d + 1
  | .map entries => uptoBulkEntries entries + 1
  | .held _ => 1
def uptoBulkAll {H : Type} : List (DataW H) → Nat
  | [] => 0
  | d :: r => uptoBulk d + uptoBulkAll r
def uptoBulkEntries {H : Type} : List (Lit × DataW H) → Nat
  | [] => 0
  | x :: r => uptoBulkEntry x + uptoBulkEntries r
def uptoBulkEntry {H : Type} : Lit × DataW H → Nat
  | (.string bytes, d) => bytes.length + uptoBulk d + 1
  | (_, d) => uptoBulk d + 1
 end
def uptoSmall : (H : Type) → List (DataW H) → Bool := fun _ ds => decide (uptoBulkAll ds ≤ 1048576)
def OpenSpec.upto (s : _root_.Go.ChangeSpec) : _root_.Go.OpenSpec := { _root_.Go.OpenSpec.ofChange s with cond := some uptoSmall }

/-- 'laws.FnExactResidueSquare', WHERE WHAT IT READS IS OF BULK AT MOST 1048576: true; the input reads as it did. -/
def fnExactResidueSquareUptoRow : OpenClaim := { program := "ytdniiohbalohlaa", sum := "8162b9ee5ebccf2c8ac191c150150812000906b1b07749f2b8dd5aea7d10a172", func := "loop.example/golayoctads/laws.FnExactResidueSquare", spec := "fnExactResidueSquare", apart := false, narrowed := true }
def FnExactResidueSquareUptoSaid : Prop := fnExactResidueSquareUptoRow.holds Try.pinned (OpenSpec.upto fnExactResidueSquareSpec)

/-- 'laws.FnExactResidueTurned', WHERE WHAT IT READS IS OF BULK AT MOST 1048576: true; the input reads as it did. -/
def fnExactResidueTurnedUptoRow : OpenClaim := { program := "ytdniiohbalohlaa", sum := "8162b9ee5ebccf2c8ac191c150150812000906b1b07749f2b8dd5aea7d10a172", func := "loop.example/golayoctads/laws.FnExactResidueTurned", spec := "fnExactResidueTurned", apart := false, narrowed := true }
def FnExactResidueTurnedUptoSaid : Prop := fnExactResidueTurnedUptoRow.holds Try.pinned (OpenSpec.upto fnExactResidueTurnedSpec)

/-- 'laws.FnSquare', WHERE WHAT IT READS IS OF BULK AT MOST 1048576: true; the input reads as it did. -/
def fnSquareUptoRow : OpenClaim := { program := "ytdniiohbalohlaa", sum := "8162b9ee5ebccf2c8ac191c150150812000906b1b07749f2b8dd5aea7d10a172", func := "loop.example/golayoctads/laws.FnSquare", spec := "fnSquare", apart := false, narrowed := true }
def FnSquareUptoSaid : Prop := fnSquareUptoRow.holds Try.pinned (OpenSpec.upto fnSquareSpec)

/-- 'laws.FnExactLineWord', WHERE WHAT IT READS IS OF BULK AT MOST 1048576: true; the input reads as it did. -/
def fnExactLineWordUptoRow : OpenClaim := { program := "ytdniiohbalohlaa", sum := "8162b9ee5ebccf2c8ac191c150150812000906b1b07749f2b8dd5aea7d10a172", func := "loop.example/golayoctads/laws.FnExactLineWord", spec := "fnExactLineWord", apart := false, narrowed := true }
def FnExactLineWordUptoSaid : Prop := fnExactLineWordUptoRow.holds Try.pinned (OpenSpec.upto fnExactLineWordSpec)

/-- 'laws.FnResidueTurned', WHERE WHAT IT READS IS OF BULK AT MOST 1048576: true; the input reads as it did. -/
def fnResidueTurnedUptoRow : OpenClaim := { program := "ytdniiohbalohlaa", sum := "8162b9ee5ebccf2c8ac191c150150812000906b1b07749f2b8dd5aea7d10a172", func := "loop.example/golayoctads/laws.FnResidueTurned", spec := "fnResidueTurned", apart := false, narrowed := true }
def FnResidueTurnedUptoSaid : Prop := fnResidueTurnedUptoRow.holds Try.pinned (OpenSpec.upto fnResidueTurnedSpec)

/-- 'laws.FnExactLineSum', WHERE WHAT IT READS IS OF BULK AT MOST 1048576: true; the input reads as it did. -/
def fnExactLineSumUptoRow : OpenClaim := { program := "ytdniiohbalohlaa", sum := "8162b9ee5ebccf2c8ac191c150150812000906b1b07749f2b8dd5aea7d10a172", func := "loop.example/golayoctads/laws.FnExactLineSum", spec := "fnExactLineSum", apart := false, narrowed := true }
def FnExactLineSumUptoSaid : Prop := fnExactLineSumUptoRow.holds Try.pinned (OpenSpec.upto fnExactLineSumSpec)

/-- 'laws.FnExactLineMove', WHERE WHAT IT READS IS OF BULK AT MOST 1048576: true; the input reads as it did. -/
def fnExactLineMoveUptoRow : OpenClaim := { program := "ytdniiohbalohlaa", sum := "8162b9ee5ebccf2c8ac191c150150812000906b1b07749f2b8dd5aea7d10a172", func := "loop.example/golayoctads/laws.FnExactLineMove", spec := "fnExactLineMove", apart := false, narrowed := true }
def FnExactLineMoveUptoSaid : Prop := fnExactLineMoveUptoRow.holds Try.pinned (OpenSpec.upto fnExactLineMoveSpec)

/-- 'laws.FnExactLineIn', WHERE WHAT IT READS IS OF BULK AT MOST 1048576: true; the input reads as it did. -/
def fnExactLineInUptoRow : OpenClaim := { program := "ytdniiohbalohlaa", sum := "8162b9ee5ebccf2c8ac191c150150812000906b1b07749f2b8dd5aea7d10a172", func := "loop.example/golayoctads/laws.FnExactLineIn", spec := "fnExactLineIn", unfollowed := true, recurses := true, apart := false, narrowed := true }
def FnExactLineInUptoSaid : Prop := fnExactLineInUptoRow.holds Try.pinned (OpenSpec.upto fnExactLineInSpec)

/-- 'laws.FnExactLinePerm', WHERE WHAT IT READS IS OF BULK AT MOST 1048576: true; the input reads as it did. -/
def fnExactLinePermUptoRow : OpenClaim := { program := "ytdniiohbalohlaa", sum := "8162b9ee5ebccf2c8ac191c150150812000906b1b07749f2b8dd5aea7d10a172", func := "loop.example/golayoctads/laws.FnExactLinePerm", spec := "fnExactLinePerm", apart := false, narrowed := true }
def FnExactLinePermUptoSaid : Prop := fnExactLinePermUptoRow.holds Try.pinned (OpenSpec.upto fnExactLinePermSpec)

/-- 'laws.FnMove', WHERE WHAT IT READS IS OF BULK AT MOST 1048576: true; the input reads as it did. -/
def fnMoveUptoRow : OpenClaim := { program := "ytdniiohbalohlaa", sum := "8162b9ee5ebccf2c8ac191c150150812000906b1b07749f2b8dd5aea7d10a172", func := "loop.example/golayoctads/laws.FnMove", spec := "fnMove", apart := false, narrowed := true }
def FnMoveUptoSaid : Prop := fnMoveUptoRow.holds Try.pinned (OpenSpec.upto fnMoveSpec)

/-- 'laws.FnLineSum', WHERE WHAT IT READS IS OF BULK AT MOST 1048576: true; the input reads as it did. -/
def fnLineSumUptoRow : OpenClaim := { program := "ytdniiohbalohlaa", sum := "8162b9ee5ebccf2c8ac191c150150812000906b1b07749f2b8dd5aea7d10a172", func := "loop.example/golayoctads/laws.FnLineSum", spec := "fnLineSum", unfollowed := true, recurses := true, apart := false, narrowed := true }
def FnLineSumUptoSaid : Prop := fnLineSumUptoRow.holds Try.pinned (OpenSpec.upto fnLineSumSpec)

/-- 'laws.FnLineIn', WHERE WHAT IT READS IS OF BULK AT MOST 1048576: true; the input reads as it did. -/
def fnLineInUptoRow : OpenClaim := { program := "ytdniiohbalohlaa", sum := "8162b9ee5ebccf2c8ac191c150150812000906b1b07749f2b8dd5aea7d10a172", func := "loop.example/golayoctads/laws.FnLineIn", spec := "fnLineIn", unfollowed := true, recurses := true, apart := false, narrowed := true }
def FnLineInUptoSaid : Prop := fnLineInUptoRow.holds Try.pinned (OpenSpec.upto fnLineInSpec)

end Rows
end Go.Proofs.Ytdniiohbalohlaa
