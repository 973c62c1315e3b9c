/-
  No cell of these rows narrows 'for every input' (looked for: loops, veiled, ifaces, maps, wideKeys, modest, calm, conditions, laid).
  DERIVED. THE GIVEN ROWS OF THIS SEAT. 19 by the template 'for every input the law returns true; each argument reads behind the call as it read before'; 0 by the template 'total and deterministic' (their statements: YtnjfmoplemappaaTotals.lean).
  GIVEN WITH THE SEED: the statements are not yours to turn. If you find one false, say at which input.
  Laid BY PROGRAM, IN A SANDBOX (cutbox-rows.mjs): the forced cells as the released guide's own fill.sh prints them over the translation 7a7c29681b21c399… (all of the seat's roots in one cut). By AI agents, Wed Nov 11 2026. No macro, syntax, notation, axiom, sorry.
-/
import Derived.Test.YtnjfmoplemappaaChecked
import GoSem.Claim
import GoSem.ClaimJoined
import GoSem.ClaimMapViews
import Derived.JoinedTies
import Derived.KernelRfl
namespace Go.Proofs.Ytnjfmoplemappaa
/- THE CELL 'sum', in the pinned program and in every row, IS THE sha256 OF THE DUMP (.gsa) THAT YtnjfmoplemappaaProg.lean LOADS. Nothing in Lean hashes anything: it is a label: what it is worth is what the hold of that sum in a sandbox is worth. -/
noncomputable def Try.pinned : Pinned := { name := "ytnjfmoplemappaa", sum := "7a7c29681b21c3990db3bc8f6548a93256ece626b33c84de9c44c0e44e9b411a", checked := Try.checked }
namespace Rows
def none {H : Type} : Left H := { results := [], args := [] }

/-- 'laws.FnExactVectorValid': WHATEVER THE INPUT: true; the input reads as it did. -/
def fnExactVectorValidSpec : ChangeSpec := { name := "fnExactVectorValid", fn := fun _ => fun
  | [d] => { results := [.lit (.bool true)], args := [d] }
  | _ => none }
def fnExactVectorValidRow : OpenClaim := { program := "ytnjfmoplemappaa", sum := "7a7c29681b21c3990db3bc8f6548a93256ece626b33c84de9c44c0e44e9b411a", func := "loop.example/golayoctads/laws.FnExactVectorValid", spec := "fnExactVectorValid", apart := false }
def FnExactVectorValidSaid : Prop := fnExactVectorValidRow.holds Try.pinned (OpenSpec.ofChange fnExactVectorValidSpec)

/-- ITS FALSE NEIGHBOUR: 'it returns false'. Refute it at one input. -/
def fnExactVectorValidWrong : ChangeSpec := { name := "fnExactVectorValid", fn := fun _ => fun
  | [d] => { results := [.lit (.bool false)], args := [d] }
  | _ => none }
def FnExactVectorValidWrongFalsely : Prop := fnExactVectorValidRow.holds Try.pinned (OpenSpec.ofChange fnExactVectorValidWrong)

/-- 'laws.FnExactLatticeInner': WHATEVER THE INPUT: true; the input reads as it did. -/
def fnExactLatticeInnerSpec : ChangeSpec := { name := "fnExactLatticeInner", fn := fun _ => fun
  | [d1, d2] => { results := [.lit (.bool true)], args := [d1, d2] }
  | _ => none }
def fnExactLatticeInnerRow : OpenClaim := { program := "ytnjfmoplemappaa", sum := "7a7c29681b21c3990db3bc8f6548a93256ece626b33c84de9c44c0e44e9b411a", func := "loop.example/golayoctads/laws.FnExactLatticeInner", spec := "fnExactLatticeInner", apart := false }
def FnExactLatticeInnerSaid : Prop := fnExactLatticeInnerRow.holds Try.pinned (OpenSpec.ofChange fnExactLatticeInnerSpec)

/-- ITS FALSE NEIGHBOUR: 'it returns false'. Refute it at one input. -/
def fnExactLatticeInnerWrong : ChangeSpec := { name := "fnExactLatticeInner", fn := fun _ => fun
  | [d1, d2] => { results := [.lit (.bool false)], args := [d1, d2] }
  | _ => none }
def FnExactLatticeInnerWrongFalsely : Prop := fnExactLatticeInnerRow.holds Try.pinned (OpenSpec.ofChange fnExactLatticeInnerWrong)

/-- 'laws.FnExactLatticeFour': WHATEVER THE INPUT: true; the input reads as it did. -/
def fnExactLatticeFourSpec : ChangeSpec := { name := "fnExactLatticeFour", fn := fun _ => fun
  | [d1, d2, d3, d4] => { results := [.lit (.bool true)], args := [d1, d2, d3, d4] }
  | _ => none }
def fnExactLatticeFourRow : OpenClaim := { program := "ytnjfmoplemappaa", sum := "7a7c29681b21c3990db3bc8f6548a93256ece626b33c84de9c44c0e44e9b411a", func := "loop.example/golayoctads/laws.FnExactLatticeFour", spec := "fnExactLatticeFour", unfollowed := true, recurses := true, apart := false }
def FnExactLatticeFourSaid : Prop := fnExactLatticeFourRow.holds Try.pinned (OpenSpec.ofChange fnExactLatticeFourSpec)

/-- ITS FALSE NEIGHBOUR: 'it returns false'. Refute it at one input. -/
def fnExactLatticeFourWrong : ChangeSpec := { name := "fnExactLatticeFour", fn := fun _ => fun
  | [d1, d2, d3, d4] => { results := [.lit (.bool false)], args := [d1, d2, d3, d4] }
  | _ => none }
def FnExactLatticeFourWrongFalsely : Prop := fnExactLatticeFourRow.holds Try.pinned (OpenSpec.ofChange fnExactLatticeFourWrong)

/-- 'laws.FnExactLatticeFlip': WHATEVER THE INPUT: true; the input reads as it did. -/
def fnExactLatticeFlipSpec : ChangeSpec := { name := "fnExactLatticeFlip", fn := fun _ => fun
  | [d1, d2] => { results := [.lit (.bool true)], args := [d1, d2] }
  | _ => none }
def fnExactLatticeFlipRow : OpenClaim := { program := "ytnjfmoplemappaa", sum := "7a7c29681b21c3990db3bc8f6548a93256ece626b33c84de9c44c0e44e9b411a", func := "loop.example/golayoctads/laws.FnExactLatticeFlip", spec := "fnExactLatticeFlip", apart := false }
def FnExactLatticeFlipSaid : Prop := fnExactLatticeFlipRow.holds Try.pinned (OpenSpec.ofChange fnExactLatticeFlipSpec)

/-- ITS FALSE NEIGHBOUR: 'it returns false'. Refute it at one input. -/
def fnExactLatticeFlipWrong : ChangeSpec := { name := "fnExactLatticeFlip", fn := fun _ => fun
  | [d1, d2] => { results := [.lit (.bool false)], args := [d1, d2] }
  | _ => none }
def FnExactLatticeFlipWrongFalsely : Prop := fnExactLatticeFlipRow.holds Try.pinned (OpenSpec.ofChange fnExactLatticeFlipWrong)

/-- 'laws.FnExactLatticeMove': WHATEVER THE INPUT: true; the input reads as it did. -/
def fnExactLatticeMoveSpec : ChangeSpec := { name := "fnExactLatticeMove", fn := fun _ => fun
  | [d1, d2] => { results := [.lit (.bool true)], args := [d1, d2] }
  | _ => none }
def fnExactLatticeMoveRow : OpenClaim := { program := "ytnjfmoplemappaa", sum := "7a7c29681b21c3990db3bc8f6548a93256ece626b33c84de9c44c0e44e9b411a", func := "loop.example/golayoctads/laws.FnExactLatticeMove", spec := "fnExactLatticeMove", apart := false }
def FnExactLatticeMoveSaid : Prop := fnExactLatticeMoveRow.holds Try.pinned (OpenSpec.ofChange fnExactLatticeMoveSpec)

/-- ITS FALSE NEIGHBOUR: 'it returns false'. Refute it at one input. -/
def fnExactLatticeMoveWrong : ChangeSpec := { name := "fnExactLatticeMove", fn := fun _ => fun
  | [d1, d2] => { results := [.lit (.bool false)], args := [d1, d2] }
  | _ => none }
def FnExactLatticeMoveWrongFalsely : Prop := fnExactLatticeMoveRow.holds Try.pinned (OpenSpec.ofChange fnExactLatticeMoveWrong)

/-- 'laws.FnFourVector': WHATEVER THE INPUT: true; the input reads as it did. -/
def fnFourVectorSpec : ChangeSpec := { name := "fnFourVector", fn := fun _ => fun
  | [d] => { results := [.lit (.bool true)], args := [d] }
  | _ => none }
def fnFourVectorRow : OpenClaim := { program := "ytnjfmoplemappaa", sum := "7a7c29681b21c3990db3bc8f6548a93256ece626b33c84de9c44c0e44e9b411a", func := "loop.example/golayoctads/laws.FnFourVector", spec := "fnFourVector", unfollowed := true, recurses := true, apart := false }
def FnFourVectorSaid : Prop := fnFourVectorRow.holds Try.pinned (OpenSpec.ofChange fnFourVectorSpec)

/-- ITS FALSE NEIGHBOUR: 'it returns false'. Refute it at one input. -/
def fnFourVectorWrong : ChangeSpec := { name := "fnFourVector", fn := fun _ => fun
  | [d] => { results := [.lit (.bool false)], args := [d] }
  | _ => none }
def FnFourVectorWrongFalsely : Prop := fnFourVectorRow.holds Try.pinned (OpenSpec.ofChange fnFourVectorWrong)

/-- 'laws.FnExactLatticeIn': WHATEVER THE INPUT: true; the input reads as it did. -/
def fnExactLatticeInSpec : ChangeSpec := { name := "fnExactLatticeIn", fn := fun _ => fun
  | [d] => { results := [.lit (.bool true)], args := [d] }
  | _ => none }
def fnExactLatticeInRow : OpenClaim := { program := "ytnjfmoplemappaa", sum := "7a7c29681b21c3990db3bc8f6548a93256ece626b33c84de9c44c0e44e9b411a", func := "loop.example/golayoctads/laws.FnExactLatticeIn", spec := "fnExactLatticeIn", apart := false }
def FnExactLatticeInSaid : Prop := fnExactLatticeInRow.holds Try.pinned (OpenSpec.ofChange fnExactLatticeInSpec)

/-- ITS FALSE NEIGHBOUR: 'it returns false'. Refute it at one input. -/
def fnExactLatticeInWrong : ChangeSpec := { name := "fnExactLatticeIn", fn := fun _ => fun
  | [d] => { results := [.lit (.bool false)], args := [d] }
  | _ => none }
def FnExactLatticeInWrongFalsely : Prop := fnExactLatticeInRow.holds Try.pinned (OpenSpec.ofChange fnExactLatticeInWrong)

/-- 'laws.FnExactLatticeOctad': WHATEVER THE INPUT: true; the input reads as it did. -/
def fnExactLatticeOctadSpec : ChangeSpec := { name := "fnExactLatticeOctad", fn := fun _ => fun
  | [d1, d2] => { results := [.lit (.bool true)], args := [d1, d2] }
  | _ => none }
def fnExactLatticeOctadRow : OpenClaim := { program := "ytnjfmoplemappaa", sum := "7a7c29681b21c3990db3bc8f6548a93256ece626b33c84de9c44c0e44e9b411a", func := "loop.example/golayoctads/laws.FnExactLatticeOctad", spec := "fnExactLatticeOctad", apart := false }
def FnExactLatticeOctadSaid : Prop := fnExactLatticeOctadRow.holds Try.pinned (OpenSpec.ofChange fnExactLatticeOctadSpec)

/-- ITS FALSE NEIGHBOUR: 'it returns false'. Refute it at one input. -/
def fnExactLatticeOctadWrong : ChangeSpec := { name := "fnExactLatticeOctad", fn := fun _ => fun
  | [d1, d2] => { results := [.lit (.bool false)], args := [d1, d2] }
  | _ => none }
def FnExactLatticeOctadWrongFalsely : Prop := fnExactLatticeOctadRow.holds Try.pinned (OpenSpec.ofChange fnExactLatticeOctadWrong)

/-- 'laws.FnExactLatticeThree': WHATEVER THE INPUT: true; the input reads as it did. -/
def fnExactLatticeThreeSpec : ChangeSpec := { name := "fnExactLatticeThree", fn := fun _ => fun
  | [d1, d2] => { results := [.lit (.bool true)], args := [d1, d2] }
  | _ => none }
def fnExactLatticeThreeRow : OpenClaim := { program := "ytnjfmoplemappaa", sum := "7a7c29681b21c3990db3bc8f6548a93256ece626b33c84de9c44c0e44e9b411a", func := "loop.example/golayoctads/laws.FnExactLatticeThree", spec := "fnExactLatticeThree", apart := false }
def FnExactLatticeThreeSaid : Prop := fnExactLatticeThreeRow.holds Try.pinned (OpenSpec.ofChange fnExactLatticeThreeSpec)

/-- ITS FALSE NEIGHBOUR: 'it returns false'. Refute it at one input. -/
def fnExactLatticeThreeWrong : ChangeSpec := { name := "fnExactLatticeThree", fn := fun _ => fun
  | [d1, d2] => { results := [.lit (.bool false)], args := [d1, d2] }
  | _ => none }
def FnExactLatticeThreeWrongFalsely : Prop := fnExactLatticeThreeRow.holds Try.pinned (OpenSpec.ofChange fnExactLatticeThreeWrong)

/-- 'laws.FnExactLatticeAdd': WHATEVER THE INPUT: true; the input reads as it did. -/
def fnExactLatticeAddSpec : ChangeSpec := { name := "fnExactLatticeAdd", fn := fun _ => fun
  | [d1, d2] => { results := [.lit (.bool true)], args := [d1, d2] }
  | _ => none }
def fnExactLatticeAddRow : OpenClaim := { program := "ytnjfmoplemappaa", sum := "7a7c29681b21c3990db3bc8f6548a93256ece626b33c84de9c44c0e44e9b411a", func := "loop.example/golayoctads/laws.FnExactLatticeAdd", spec := "fnExactLatticeAdd", apart := false }
def FnExactLatticeAddSaid : Prop := fnExactLatticeAddRow.holds Try.pinned (OpenSpec.ofChange fnExactLatticeAddSpec)

/-- ITS FALSE NEIGHBOUR: 'it returns false'. Refute it at one input. -/
def fnExactLatticeAddWrong : ChangeSpec := { name := "fnExactLatticeAdd", fn := fun _ => fun
  | [d1, d2] => { results := [.lit (.bool false)], args := [d1, d2] }
  | _ => none }
def FnExactLatticeAddWrongFalsely : Prop := fnExactLatticeAddRow.holds Try.pinned (OpenSpec.ofChange fnExactLatticeAddWrong)

/-- 'laws.FnVector': WHATEVER THE INPUT: true; the input reads as it did. -/
def fnVectorSpec : ChangeSpec := { name := "fnVector", fn := fun _ => fun
  | [d] => { results := [.lit (.bool true)], args := [d] }
  | _ => none }
def fnVectorRow : OpenClaim := { program := "ytnjfmoplemappaa", sum := "7a7c29681b21c3990db3bc8f6548a93256ece626b33c84de9c44c0e44e9b411a", func := "loop.example/golayoctads/laws.FnVector", spec := "fnVector", recurses := true, apart := false }
def FnVectorSaid : Prop := fnVectorRow.holds Try.pinned (OpenSpec.ofChange fnVectorSpec)

/-- ITS FALSE NEIGHBOUR: 'it returns false'. Refute it at one input. -/
def fnVectorWrong : ChangeSpec := { name := "fnVector", fn := fun _ => fun
  | [d] => { results := [.lit (.bool false)], args := [d] }
  | _ => none }
def FnVectorWrongFalsely : Prop := fnVectorRow.holds Try.pinned (OpenSpec.ofChange fnVectorWrong)

/-- 'laws.FnThree': WHATEVER THE INPUT: true; the input reads as it did. -/
def fnThreeSpec : ChangeSpec := { name := "fnThree", fn := fun _ => fun
  | [d] => { results := [.lit (.bool true)], args := [d] }
  | _ => none }
def fnThreeRow : OpenClaim := { program := "ytnjfmoplemappaa", sum := "7a7c29681b21c3990db3bc8f6548a93256ece626b33c84de9c44c0e44e9b411a", func := "loop.example/golayoctads/laws.FnThree", spec := "fnThree", apart := false }
def FnThreeSaid : Prop := fnThreeRow.holds Try.pinned (OpenSpec.ofChange fnThreeSpec)

/-- ITS FALSE NEIGHBOUR: 'it returns false'. Refute it at one input. -/
def fnThreeWrong : ChangeSpec := { name := "fnThree", fn := fun _ => fun
  | [d] => { results := [.lit (.bool false)], args := [d] }
  | _ => none }
def FnThreeWrongFalsely : Prop := fnThreeRow.holds Try.pinned (OpenSpec.ofChange fnThreeWrong)

/-- 'laws.FnExactLatticeShape': WHATEVER THE INPUT: true; the input reads as it did. -/
def fnExactLatticeShapeSpec : ChangeSpec := { name := "fnExactLatticeShape", fn := fun _ => fun
  | [d] => { results := [.lit (.bool true)], args := [d] }
  | _ => none }
def fnExactLatticeShapeRow : OpenClaim := { program := "ytnjfmoplemappaa", sum := "7a7c29681b21c3990db3bc8f6548a93256ece626b33c84de9c44c0e44e9b411a", func := "loop.example/golayoctads/laws.FnExactLatticeShape", spec := "fnExactLatticeShape", recurses := true, apart := false }
def FnExactLatticeShapeSaid : Prop := fnExactLatticeShapeRow.holds Try.pinned (OpenSpec.ofChange fnExactLatticeShapeSpec)

/-- ITS FALSE NEIGHBOUR: 'it returns false'. Refute it at one input. -/
def fnExactLatticeShapeWrong : ChangeSpec := { name := "fnExactLatticeShape", fn := fun _ => fun
  | [d] => { results := [.lit (.bool false)], args := [d] }
  | _ => none }
def FnExactLatticeShapeWrongFalsely : Prop := fnExactLatticeShapeRow.holds Try.pinned (OpenSpec.ofChange fnExactLatticeShapeWrong)

/-- 'laws.FnOctadVector': WHATEVER THE INPUT: true; the input reads as it did. -/
def fnOctadVectorSpec : ChangeSpec := { name := "fnOctadVector", fn := fun _ => fun
  | [d] => { results := [.lit (.bool true)], args := [d] }
  | _ => none }
def fnOctadVectorRow : OpenClaim := { program := "ytnjfmoplemappaa", sum := "7a7c29681b21c3990db3bc8f6548a93256ece626b33c84de9c44c0e44e9b411a", func := "loop.example/golayoctads/laws.FnOctadVector", spec := "fnOctadVector", recurses := true, apart := false }
def FnOctadVectorSaid : Prop := fnOctadVectorRow.holds Try.pinned (OpenSpec.ofChange fnOctadVectorSpec)

/-- ITS FALSE NEIGHBOUR: 'it returns false'. Refute it at one input. -/
def fnOctadVectorWrong : ChangeSpec := { name := "fnOctadVector", fn := fun _ => fun
  | [d] => { results := [.lit (.bool false)], args := [d] }
  | _ => none }
def FnOctadVectorWrongFalsely : Prop := fnOctadVectorRow.holds Try.pinned (OpenSpec.ofChange fnOctadVectorWrong)

/-- 'laws.FnInner': WHATEVER THE INPUT: true; the input reads as it did. -/
def fnInnerSpec : ChangeSpec := { name := "fnInner", fn := fun _ => fun
  | [d] => { results := [.lit (.bool true)], args := [d] }
  | _ => none }
def fnInnerRow : OpenClaim := { program := "ytnjfmoplemappaa", sum := "7a7c29681b21c3990db3bc8f6548a93256ece626b33c84de9c44c0e44e9b411a", func := "loop.example/golayoctads/laws.FnInner", spec := "fnInner", recurses := true, apart := false }
def FnInnerSaid : Prop := fnInnerRow.holds Try.pinned (OpenSpec.ofChange fnInnerSpec)

/-- ITS FALSE NEIGHBOUR: 'it returns false'. Refute it at one input. -/
def fnInnerWrong : ChangeSpec := { name := "fnInner", fn := fun _ => fun
  | [d] => { results := [.lit (.bool false)], args := [d] }
  | _ => none }
def FnInnerWrongFalsely : Prop := fnInnerRow.holds Try.pinned (OpenSpec.ofChange fnInnerWrong)

/-- 'laws.FnLattice': WHATEVER THE INPUT: true; the input reads as it did. -/
def fnLatticeSpec : ChangeSpec := { name := "fnLattice", fn := fun _ => fun
  | [d] => { results := [.lit (.bool true)], args := [d] }
  | _ => none }
def fnLatticeRow : OpenClaim := { program := "ytnjfmoplemappaa", sum := "7a7c29681b21c3990db3bc8f6548a93256ece626b33c84de9c44c0e44e9b411a", func := "loop.example/golayoctads/laws.FnLattice", spec := "fnLattice", recurses := true, apart := false }
def FnLatticeSaid : Prop := fnLatticeRow.holds Try.pinned (OpenSpec.ofChange fnLatticeSpec)

/-- ITS FALSE NEIGHBOUR: 'it returns false'. Refute it at one input. -/
def fnLatticeWrong : ChangeSpec := { name := "fnLattice", fn := fun _ => fun
  | [d] => { results := [.lit (.bool false)], args := [d] }
  | _ => none }
def FnLatticeWrongFalsely : Prop := fnLatticeRow.holds Try.pinned (OpenSpec.ofChange fnLatticeWrong)

/-- 'laws.FnFlip': WHATEVER THE INPUT: true; the input reads as it did. -/
def fnFlipSpec : ChangeSpec := { name := "fnFlip", fn := fun _ => fun
  | [d] => { results := [.lit (.bool true)], args := [d] }
  | _ => none }
def fnFlipRow : OpenClaim := { program := "ytnjfmoplemappaa", sum := "7a7c29681b21c3990db3bc8f6548a93256ece626b33c84de9c44c0e44e9b411a", func := "loop.example/golayoctads/laws.FnFlip", spec := "fnFlip", recurses := true, apart := false }
def FnFlipSaid : Prop := fnFlipRow.holds Try.pinned (OpenSpec.ofChange fnFlipSpec)

/-- ITS FALSE NEIGHBOUR: 'it returns false'. Refute it at one input. -/
def fnFlipWrong : ChangeSpec := { name := "fnFlip", fn := fun _ => fun
  | [d] => { results := [.lit (.bool false)], args := [d] }
  | _ => none }
def FnFlipWrongFalsely : Prop := fnFlipRow.holds Try.pinned (OpenSpec.ofChange fnFlipWrong)

/-- 'laws.FnLatticeAdd': WHATEVER THE INPUT: true; the input reads as it did. -/
def fnLatticeAddSpec : ChangeSpec := { name := "fnLatticeAdd", fn := fun _ => fun
  | [d] => { results := [.lit (.bool true)], args := [d] }
  | _ => none }
def fnLatticeAddRow : OpenClaim := { program := "ytnjfmoplemappaa", sum := "7a7c29681b21c3990db3bc8f6548a93256ece626b33c84de9c44c0e44e9b411a", func := "loop.example/golayoctads/laws.FnLatticeAdd", spec := "fnLatticeAdd", recurses := true, apart := false }
def FnLatticeAddSaid : Prop := fnLatticeAddRow.holds Try.pinned (OpenSpec.ofChange fnLatticeAddSpec)

/-- ITS FALSE NEIGHBOUR: 'it returns false'. Refute it at one input. -/
def fnLatticeAddWrong : ChangeSpec := { name := "fnLatticeAdd", fn := fun _ => fun
  | [d] => { results := [.lit (.bool false)], args := [d] }
  | _ => none }
def FnLatticeAddWrongFalsely : Prop := fnLatticeAddRow.holds Try.pinned (OpenSpec.ofChange fnLatticeAddWrong)

/-- 'laws.FnShape': WHATEVER THE INPUT: true; the input reads as it did. -/
def fnShapeSpec : ChangeSpec := { name := "fnShape", fn := fun _ => fun
  | [d] => { results := [.lit (.bool true)], args := [d] }
  | _ => none }
def fnShapeRow : OpenClaim := { program := "ytnjfmoplemappaa", sum := "7a7c29681b21c3990db3bc8f6548a93256ece626b33c84de9c44c0e44e9b411a", func := "loop.example/golayoctads/laws.FnShape", spec := "fnShape", recurses := true, apart := false }
def FnShapeSaid : Prop := fnShapeRow.holds Try.pinned (OpenSpec.ofChange fnShapeSpec)

/-- ITS FALSE NEIGHBOUR: 'it returns false'. Refute it at one input. -/
def fnShapeWrong : ChangeSpec := { name := "fnShape", fn := fun _ => fun
  | [d] => { results := [.lit (.bool false)], args := [d] }
  | _ => none }
def FnShapeWrongFalsely : Prop := fnShapeRow.holds Try.pinned (OpenSpec.ofChange fnShapeWrong)

/- THE SECOND FORM. 'bulk': how many values and letters a reading holds, each counted each time it is reached (what is shared counts as often as it is met; a slice's spare places count too). A statement '..UptoSaid' is the law's where the arguments, and the package variables that the reading takes, are together of bulk at most 1048576: NARROWER than '..Said'. Prove '..Said' where nothing that the law and all that it calls make is longer than what came in: it says more and counts as full. Else prove '..UptoSaid'. A law counts once. -/
mutual
def uptoBulk {H : Type} : DataW H → Nat
  | .lit (.string bytes) => bytes.length + 1
  | .lit _ => 1
  | .nil => 1
  | .ptr d => uptoBulk d + 1
  | .slice elems spare => uptoBulkAll elems + uptoBulkAll spare + 1
  | .agg parts => uptoBulkAll parts + 1
  | .iface _ d => uptoBulk d + 1
  | .map entries => uptoBulkEntries entries + 1
  | .held _ => 1
def uptoBulkAll {H : Type} : List (DataW H) → Nat
  | [] => 0
  | d :: r => uptoBulk d + uptoBulkAll r
def uptoBulkEntries {H : Type} : List (Lit × DataW H) → Nat
  | [] => 0
  | x :: r => uptoBulkEntry x + uptoBulkEntries r
def uptoBulkEntry {H : Type} : Lit × DataW H → Nat
  | (.string bytes, d) => bytes.length + uptoBulk d + 1
  | (_, d) => uptoBulk d + 1
 end
def uptoSmall : (H : Type) → List (DataW H) → Bool := fun _ ds => decide (uptoBulkAll ds ≤ 1048576)
def OpenSpec.upto (s : _root_.Go.ChangeSpec) : _root_.Go.OpenSpec := { _root_.Go.OpenSpec.ofChange s with cond := some uptoSmall }

/-- 'laws.FnExactVectorValid', WHERE WHAT IT READS IS OF BULK AT MOST 1048576: true; the input reads as it did. -/
def fnExactVectorValidUptoRow : OpenClaim := { program := "ytnjfmoplemappaa", sum := "7a7c29681b21c3990db3bc8f6548a93256ece626b33c84de9c44c0e44e9b411a", func := "loop.example/golayoctads/laws.FnExactVectorValid", spec := "fnExactVectorValid", apart := false, narrowed := true }
def FnExactVectorValidUptoSaid : Prop := fnExactVectorValidUptoRow.holds Try.pinned (OpenSpec.upto fnExactVectorValidSpec)

/-- 'laws.FnExactLatticeInner', WHERE WHAT IT READS IS OF BULK AT MOST 1048576: true; the input reads as it did. -/
def fnExactLatticeInnerUptoRow : OpenClaim := { program := "ytnjfmoplemappaa", sum := "7a7c29681b21c3990db3bc8f6548a93256ece626b33c84de9c44c0e44e9b411a", func := "loop.example/golayoctads/laws.FnExactLatticeInner", spec := "fnExactLatticeInner", apart := false, narrowed := true }
def FnExactLatticeInnerUptoSaid : Prop := fnExactLatticeInnerUptoRow.holds Try.pinned (OpenSpec.upto fnExactLatticeInnerSpec)

/-- 'laws.FnExactLatticeFour', WHERE WHAT IT READS IS OF BULK AT MOST 1048576: true; the input reads as it did. -/
def fnExactLatticeFourUptoRow : OpenClaim := { program := "ytnjfmoplemappaa", sum := "7a7c29681b21c3990db3bc8f6548a93256ece626b33c84de9c44c0e44e9b411a", func := "loop.example/golayoctads/laws.FnExactLatticeFour", spec := "fnExactLatticeFour", unfollowed := true, recurses := true, apart := false, narrowed := true }
def FnExactLatticeFourUptoSaid : Prop := fnExactLatticeFourUptoRow.holds Try.pinned (OpenSpec.upto fnExactLatticeFourSpec)

/-- 'laws.FnExactLatticeFlip', WHERE WHAT IT READS IS OF BULK AT MOST 1048576: true; the input reads as it did. -/
def fnExactLatticeFlipUptoRow : OpenClaim := { program := "ytnjfmoplemappaa", sum := "7a7c29681b21c3990db3bc8f6548a93256ece626b33c84de9c44c0e44e9b411a", func := "loop.example/golayoctads/laws.FnExactLatticeFlip", spec := "fnExactLatticeFlip", apart := false, narrowed := true }
def FnExactLatticeFlipUptoSaid : Prop := fnExactLatticeFlipUptoRow.holds Try.pinned (OpenSpec.upto fnExactLatticeFlipSpec)

/-- 'laws.FnExactLatticeMove', WHERE WHAT IT READS IS OF BULK AT MOST 1048576: true; the input reads as it did. -/
def fnExactLatticeMoveUptoRow : OpenClaim := { program := "ytnjfmoplemappaa", sum := "7a7c29681b21c3990db3bc8f6548a93256ece626b33c84de9c44c0e44e9b411a", func := "loop.example/golayoctads/laws.FnExactLatticeMove", spec := "fnExactLatticeMove", apart := false, narrowed := true }
def FnExactLatticeMoveUptoSaid : Prop := fnExactLatticeMoveUptoRow.holds Try.pinned (OpenSpec.upto fnExactLatticeMoveSpec)

/-- 'laws.FnFourVector', WHERE WHAT IT READS IS OF BULK AT MOST 1048576: true; the input reads as it did. -/
def fnFourVectorUptoRow : OpenClaim := { program := "ytnjfmoplemappaa", sum := "7a7c29681b21c3990db3bc8f6548a93256ece626b33c84de9c44c0e44e9b411a", func := "loop.example/golayoctads/laws.FnFourVector", spec := "fnFourVector", unfollowed := true, recurses := true, apart := false, narrowed := true }
def FnFourVectorUptoSaid : Prop := fnFourVectorUptoRow.holds Try.pinned (OpenSpec.upto fnFourVectorSpec)

/-- 'laws.FnExactLatticeIn', WHERE WHAT IT READS IS OF BULK AT MOST 1048576: true; the input reads as it did. -/
def fnExactLatticeInUptoRow : OpenClaim := { program := "ytnjfmoplemappaa", sum := "7a7c29681b21c3990db3bc8f6548a93256ece626b33c84de9c44c0e44e9b411a", func := "loop.example/golayoctads/laws.FnExactLatticeIn", spec := "fnExactLatticeIn", apart := false, narrowed := true }
def FnExactLatticeInUptoSaid : Prop := fnExactLatticeInUptoRow.holds Try.pinned (OpenSpec.upto fnExactLatticeInSpec)

/-- 'laws.FnExactLatticeOctad', WHERE WHAT IT READS IS OF BULK AT MOST 1048576: true; the input reads as it did. -/
def fnExactLatticeOctadUptoRow : OpenClaim := { program := "ytnjfmoplemappaa", sum := "7a7c29681b21c3990db3bc8f6548a93256ece626b33c84de9c44c0e44e9b411a", func := "loop.example/golayoctads/laws.FnExactLatticeOctad", spec := "fnExactLatticeOctad", apart := false, narrowed := true }
def FnExactLatticeOctadUptoSaid : Prop := fnExactLatticeOctadUptoRow.holds Try.pinned (OpenSpec.upto fnExactLatticeOctadSpec)

/-- 'laws.FnExactLatticeThree', WHERE WHAT IT READS IS OF BULK AT MOST 1048576: true; the input reads as it did. -/
def fnExactLatticeThreeUptoRow : OpenClaim := { program := "ytnjfmoplemappaa", sum := "7a7c29681b21c3990db3bc8f6548a93256ece626b33c84de9c44c0e44e9b411a", func := "loop.example/golayoctads/laws.FnExactLatticeThree", spec := "fnExactLatticeThree", apart := false, narrowed := true }
def FnExactLatticeThreeUptoSaid : Prop := fnExactLatticeThreeUptoRow.holds Try.pinned (OpenSpec.upto fnExactLatticeThreeSpec)

/-- 'laws.FnExactLatticeAdd', WHERE WHAT IT READS IS OF BULK AT MOST 1048576: true; the input reads as it did. -/
def fnExactLatticeAddUptoRow : OpenClaim := { program := "ytnjfmoplemappaa", sum := "7a7c29681b21c3990db3bc8f6548a93256ece626b33c84de9c44c0e44e9b411a", func := "loop.example/golayoctads/laws.FnExactLatticeAdd", spec := "fnExactLatticeAdd", apart := false, narrowed := true }
def FnExactLatticeAddUptoSaid : Prop := fnExactLatticeAddUptoRow.holds Try.pinned (OpenSpec.upto fnExactLatticeAddSpec)

/-- 'laws.FnVector', WHERE WHAT IT READS IS OF BULK AT MOST 1048576: true; the input reads as it did. -/
def fnVectorUptoRow : OpenClaim := { program := "ytnjfmoplemappaa", sum := "7a7c29681b21c3990db3bc8f6548a93256ece626b33c84de9c44c0e44e9b411a", func := "loop.example/golayoctads/laws.FnVector", spec := "fnVector", recurses := true, apart := false, narrowed := true }
def FnVectorUptoSaid : Prop := fnVectorUptoRow.holds Try.pinned (OpenSpec.upto fnVectorSpec)

/-- 'laws.FnThree', WHERE WHAT IT READS IS OF BULK AT MOST 1048576: true; the input reads as it did. -/
def fnThreeUptoRow : OpenClaim := { program := "ytnjfmoplemappaa", sum := "7a7c29681b21c3990db3bc8f6548a93256ece626b33c84de9c44c0e44e9b411a", func := "loop.example/golayoctads/laws.FnThree", spec := "fnThree", apart := false, narrowed := true }
def FnThreeUptoSaid : Prop := fnThreeUptoRow.holds Try.pinned (OpenSpec.upto fnThreeSpec)

/-- 'laws.FnExactLatticeShape', WHERE WHAT IT READS IS OF BULK AT MOST 1048576: true; the input reads as it did. -/
def fnExactLatticeShapeUptoRow : OpenClaim := { program := "ytnjfmoplemappaa", sum := "7a7c29681b21c3990db3bc8f6548a93256ece626b33c84de9c44c0e44e9b411a", func := "loop.example/golayoctads/laws.FnExactLatticeShape", spec := "fnExactLatticeShape", recurses := true, apart := false, narrowed := true }
def FnExactLatticeShapeUptoSaid : Prop := fnExactLatticeShapeUptoRow.holds Try.pinned (OpenSpec.upto fnExactLatticeShapeSpec)

/-- 'laws.FnOctadVector', WHERE WHAT IT READS IS OF BULK AT MOST 1048576: true; the input reads as it did. -/
def fnOctadVectorUptoRow : OpenClaim := { program := "ytnjfmoplemappaa", sum := "7a7c29681b21c3990db3bc8f6548a93256ece626b33c84de9c44c0e44e9b411a", func := "loop.example/golayoctads/laws.FnOctadVector", spec := "fnOctadVector", recurses := true, apart := false, narrowed := true }
def FnOctadVectorUptoSaid : Prop := fnOctadVectorUptoRow.holds Try.pinned (OpenSpec.upto fnOctadVectorSpec)

/-- 'laws.FnInner', WHERE WHAT IT READS IS OF BULK AT MOST 1048576: true; the input reads as it did. -/
def fnInnerUptoRow : OpenClaim := { program := "ytnjfmoplemappaa", sum := "7a7c29681b21c3990db3bc8f6548a93256ece626b33c84de9c44c0e44e9b411a", func := "loop.example/golayoctads/laws.FnInner", spec := "fnInner", recurses := true, apart := false, narrowed := true }
def FnInnerUptoSaid : Prop := fnInnerUptoRow.holds Try.pinned (OpenSpec.upto fnInnerSpec)

/-- 'laws.FnLattice', WHERE WHAT IT READS IS OF BULK AT MOST 1048576: true; the input reads as it did. -/
def fnLatticeUptoRow : OpenClaim := { program := "ytnjfmoplemappaa", sum := "7a7c29681b21c3990db3bc8f6548a93256ece626b33c84de9c44c0e44e9b411a", func := "loop.example/golayoctads/laws.FnLattice", spec := "fnLattice", recurses := true, apart := false, narrowed := true }
def FnLatticeUptoSaid : Prop := fnLatticeUptoRow.holds Try.pinned (OpenSpec.upto fnLatticeSpec)

/-- 'laws.FnFlip', WHERE WHAT IT READS IS OF BULK AT MOST 1048576: true; the input reads as it did. -/
def fnFlipUptoRow : OpenClaim := { program := "ytnjfmoplemappaa", sum := "7a7c29681b21c3990db3bc8f6548a93256ece626b33c84de9c44c0e44e9b411a", func := "loop.example/golayoctads/laws.FnFlip", spec := "fnFlip", recurses := true, apart := false, narrowed := true }
def FnFlipUptoSaid : Prop := fnFlipUptoRow.holds Try.pinned (OpenSpec.upto fnFlipSpec)

/-- 'laws.FnLatticeAdd', WHERE WHAT IT READS IS OF BULK AT MOST 1048576: true; the input reads as it did. -/
def fnLatticeAddUptoRow : OpenClaim := { program := "ytnjfmoplemappaa", sum := "7a7c29681b21c3990db3bc8f6548a93256ece626b33c84de9c44c0e44e9b411a", func := "loop.example/golayoctads/laws.FnLatticeAdd", spec := "fnLatticeAdd", recurses := true, apart := false, narrowed := true }
def FnLatticeAddUptoSaid : Prop := fnLatticeAddUptoRow.holds Try.pinned (OpenSpec.upto fnLatticeAddSpec)

/-- 'laws.FnShape', WHERE WHAT IT READS IS OF BULK AT MOST 1048576: true; the input reads as it did. -/
def fnShapeUptoRow : OpenClaim := { program := "ytnjfmoplemappaa", sum := "7a7c29681b21c3990db3bc8f6548a93256ece626b33c84de9c44c0e44e9b411a", func := "loop.example/golayoctads/laws.FnShape", spec := "fnShape", recurses := true, apart := false, narrowed := true }
def FnShapeUptoSaid : Prop := fnShapeUptoRow.holds Try.pinned (OpenSpec.upto fnShapeSpec)

end Rows
end Go.Proofs.Ytnjfmoplemappaa
