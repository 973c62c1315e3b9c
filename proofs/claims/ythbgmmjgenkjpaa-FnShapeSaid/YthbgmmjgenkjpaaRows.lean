/-
  No cell of these rows narrows 'for every input' (looked for: loops, veiled, ifaces, maps, wideKeys, modest, calm, conditions, laid).
  DERIVED. THE GIVEN ROWS OF THIS SEAT. 11 by the template 'for every input the law returns true; each argument reads behind the call as it read before'; 0 by the template 'total and deterministic' (their statements: YthbgmmjgenkjpaaTotals.lean).
  GIVEN WITH THE SEED: the statements are not yours to turn. If you find one false, say at which input.
  Laid BY PROGRAM, IN A SANDBOX (cutbox-rows.mjs): the forced cells as the released guide's own fill.sh prints them over the translation e96992671a91245d… (all of the seat's roots in one cut). By AI agents, Wed Nov 11 2026. No macro, syntax, notation, axiom, sorry.
-/
import Derived.Test.YthbgmmjgenkjpaaChecked
import GoSem.Claim
import GoSem.ClaimJoined
import GoSem.ClaimMapViews
import Derived.JoinedTies
import Derived.KernelRfl
namespace Go.Proofs.Ythbgmmjgenkjpaa
/- THE CELL 'sum', in the pinned program and in every row, IS THE sha256 OF THE DUMP (.gsa) THAT YthbgmmjgenkjpaaProg.lean LOADS. Nothing in Lean hashes anything: it is a label: what it is worth is what the hold of that sum in a sandbox is worth. -/
noncomputable def Try.pinned : Pinned := { name := "ythbgmmjgenkjpaa", sum := "e96992671a91245ddb79caaef2b1dcbcc18d3938d83ee0ca8fe14abb5c8d441e", checked := Try.checked }
namespace Rows
def none {H : Type} : Left H := { results := [], args := [] }

/-- 'laws.FnFourVector': WHATEVER THE INPUT: true; the input reads as it did. -/
def fnFourVectorSpec : ChangeSpec := { name := "fnFourVector", fn := fun _ => fun
  | [d] => { results := [.lit (.bool true)], args := [d] }
  | _ => none }
def fnFourVectorRow : OpenClaim := { program := "ythbgmmjgenkjpaa", sum := "e96992671a91245ddb79caaef2b1dcbcc18d3938d83ee0ca8fe14abb5c8d441e", func := "loop.example/golayoctads/laws.FnFourVector", spec := "fnFourVector", unfollowed := true, recurses := true, apart := false }
def FnFourVectorSaid : Prop := fnFourVectorRow.holds Try.pinned (OpenSpec.ofChange fnFourVectorSpec)

/-- ITS FALSE NEIGHBOUR: 'it returns false'. Refute it at one input. -/
def fnFourVectorWrong : ChangeSpec := { name := "fnFourVector", fn := fun _ => fun
  | [d] => { results := [.lit (.bool false)], args := [d] }
  | _ => none }
def FnFourVectorWrongFalsely : Prop := fnFourVectorRow.holds Try.pinned (OpenSpec.ofChange fnFourVectorWrong)

/-- 'laws.FnExactLatticeAdd': WHATEVER THE INPUT: true; the input reads as it did. -/
def fnExactLatticeAddSpec : ChangeSpec := { name := "fnExactLatticeAdd", fn := fun _ => fun
  | [d1, d2] => { results := [.lit (.bool true)], args := [d1, d2] }
  | _ => none }
def fnExactLatticeAddRow : OpenClaim := { program := "ythbgmmjgenkjpaa", sum := "e96992671a91245ddb79caaef2b1dcbcc18d3938d83ee0ca8fe14abb5c8d441e", func := "loop.example/golayoctads/laws.FnExactLatticeAdd", spec := "fnExactLatticeAdd", apart := false }
def FnExactLatticeAddSaid : Prop := fnExactLatticeAddRow.holds Try.pinned (OpenSpec.ofChange fnExactLatticeAddSpec)

/-- ITS FALSE NEIGHBOUR: 'it returns false'. Refute it at one input. -/
def fnExactLatticeAddWrong : ChangeSpec := { name := "fnExactLatticeAdd", fn := fun _ => fun
  | [d1, d2] => { results := [.lit (.bool false)], args := [d1, d2] }
  | _ => none }
def FnExactLatticeAddWrongFalsely : Prop := fnExactLatticeAddRow.holds Try.pinned (OpenSpec.ofChange fnExactLatticeAddWrong)

/-- 'laws.FnVector': WHATEVER THE INPUT: true; the input reads as it did. -/
def fnVectorSpec : ChangeSpec := { name := "fnVector", fn := fun _ => fun
  | [d] => { results := [.lit (.bool true)], args := [d] }
  | _ => none }
def fnVectorRow : OpenClaim := { program := "ythbgmmjgenkjpaa", sum := "e96992671a91245ddb79caaef2b1dcbcc18d3938d83ee0ca8fe14abb5c8d441e", func := "loop.example/golayoctads/laws.FnVector", spec := "fnVector", recurses := true, apart := false }
def FnVectorSaid : Prop := fnVectorRow.holds Try.pinned (OpenSpec.ofChange fnVectorSpec)

/-- ITS FALSE NEIGHBOUR: 'it returns false'. Refute it at one input. -/
def fnVectorWrong : ChangeSpec := { name := "fnVector", fn := fun _ => fun
  | [d] => { results := [.lit (.bool false)], args := [d] }
  | _ => none }
def FnVectorWrongFalsely : Prop := fnVectorRow.holds Try.pinned (OpenSpec.ofChange fnVectorWrong)

/-- 'laws.FnThree': WHATEVER THE INPUT: true; the input reads as it did. -/
def fnThreeSpec : ChangeSpec := { name := "fnThree", fn := fun _ => fun
  | [d] => { results := [.lit (.bool true)], args := [d] }
  | _ => none }
def fnThreeRow : OpenClaim := { program := "ythbgmmjgenkjpaa", sum := "e96992671a91245ddb79caaef2b1dcbcc18d3938d83ee0ca8fe14abb5c8d441e", func := "loop.example/golayoctads/laws.FnThree", spec := "fnThree", apart := false }
def FnThreeSaid : Prop := fnThreeRow.holds Try.pinned (OpenSpec.ofChange fnThreeSpec)

/-- ITS FALSE NEIGHBOUR: 'it returns false'. Refute it at one input. -/
def fnThreeWrong : ChangeSpec := { name := "fnThree", fn := fun _ => fun
  | [d] => { results := [.lit (.bool false)], args := [d] }
  | _ => none }
def FnThreeWrongFalsely : Prop := fnThreeRow.holds Try.pinned (OpenSpec.ofChange fnThreeWrong)

/-- 'laws.FnExactLatticeShape': WHATEVER THE INPUT: true; the input reads as it did. -/
def fnExactLatticeShapeSpec : ChangeSpec := { name := "fnExactLatticeShape", fn := fun _ => fun
  | [d] => { results := [.lit (.bool true)], args := [d] }
  | _ => none }
def fnExactLatticeShapeRow : OpenClaim := { program := "ythbgmmjgenkjpaa", sum := "e96992671a91245ddb79caaef2b1dcbcc18d3938d83ee0ca8fe14abb5c8d441e", func := "loop.example/golayoctads/laws.FnExactLatticeShape", spec := "fnExactLatticeShape", recurses := true, apart := false }
def FnExactLatticeShapeSaid : Prop := fnExactLatticeShapeRow.holds Try.pinned (OpenSpec.ofChange fnExactLatticeShapeSpec)

/-- ITS FALSE NEIGHBOUR: 'it returns false'. Refute it at one input. -/
def fnExactLatticeShapeWrong : ChangeSpec := { name := "fnExactLatticeShape", fn := fun _ => fun
  | [d] => { results := [.lit (.bool false)], args := [d] }
  | _ => none }
def FnExactLatticeShapeWrongFalsely : Prop := fnExactLatticeShapeRow.holds Try.pinned (OpenSpec.ofChange fnExactLatticeShapeWrong)

/-- 'laws.FnOctadVector': WHATEVER THE INPUT: true; the input reads as it did. -/
def fnOctadVectorSpec : ChangeSpec := { name := "fnOctadVector", fn := fun _ => fun
  | [d] => { results := [.lit (.bool true)], args := [d] }
  | _ => none }
def fnOctadVectorRow : OpenClaim := { program := "ythbgmmjgenkjpaa", sum := "e96992671a91245ddb79caaef2b1dcbcc18d3938d83ee0ca8fe14abb5c8d441e", func := "loop.example/golayoctads/laws.FnOctadVector", spec := "fnOctadVector", recurses := true, apart := false }
def FnOctadVectorSaid : Prop := fnOctadVectorRow.holds Try.pinned (OpenSpec.ofChange fnOctadVectorSpec)

/-- ITS FALSE NEIGHBOUR: 'it returns false'. Refute it at one input. -/
def fnOctadVectorWrong : ChangeSpec := { name := "fnOctadVector", fn := fun _ => fun
  | [d] => { results := [.lit (.bool false)], args := [d] }
  | _ => none }
def FnOctadVectorWrongFalsely : Prop := fnOctadVectorRow.holds Try.pinned (OpenSpec.ofChange fnOctadVectorWrong)

/-- 'laws.FnInner': WHATEVER THE INPUT: true; the input reads as it did. -/
def fnInnerSpec : ChangeSpec := { name := "fnInner", fn := fun _ => fun
  | [d] => { results := [.lit (.bool true)], args := [d] }
  | _ => none }
def fnInnerRow : OpenClaim := { program := "ythbgmmjgenkjpaa", sum := "e96992671a91245ddb79caaef2b1dcbcc18d3938d83ee0ca8fe14abb5c8d441e", func := "loop.example/golayoctads/laws.FnInner", spec := "fnInner", recurses := true, apart := false }
def FnInnerSaid : Prop := fnInnerRow.holds Try.pinned (OpenSpec.ofChange fnInnerSpec)

/-- ITS FALSE NEIGHBOUR: 'it returns false'. Refute it at one input. -/
def fnInnerWrong : ChangeSpec := { name := "fnInner", fn := fun _ => fun
  | [d] => { results := [.lit (.bool false)], args := [d] }
  | _ => none }
def FnInnerWrongFalsely : Prop := fnInnerRow.holds Try.pinned (OpenSpec.ofChange fnInnerWrong)

/-- 'laws.FnLattice': WHATEVER THE INPUT: true; the input reads as it did. -/
def fnLatticeSpec : ChangeSpec := { name := "fnLattice", fn := fun _ => fun
  | [d] => { results := [.lit (.bool true)], args := [d] }
  | _ => none }
def fnLatticeRow : OpenClaim := { program := "ythbgmmjgenkjpaa", sum := "e96992671a91245ddb79caaef2b1dcbcc18d3938d83ee0ca8fe14abb5c8d441e", func := "loop.example/golayoctads/laws.FnLattice", spec := "fnLattice", recurses := true, apart := false }
def FnLatticeSaid : Prop := fnLatticeRow.holds Try.pinned (OpenSpec.ofChange fnLatticeSpec)

/-- ITS FALSE NEIGHBOUR: 'it returns false'. Refute it at one input. -/
def fnLatticeWrong : ChangeSpec := { name := "fnLattice", fn := fun _ => fun
  | [d] => { results := [.lit (.bool false)], args := [d] }
  | _ => none }
def FnLatticeWrongFalsely : Prop := fnLatticeRow.holds Try.pinned (OpenSpec.ofChange fnLatticeWrong)

/-- 'laws.FnFlip': WHATEVER THE INPUT: true; the input reads as it did. -/
def fnFlipSpec : ChangeSpec := { name := "fnFlip", fn := fun _ => fun
  | [d] => { results := [.lit (.bool true)], args := [d] }
  | _ => none }
def fnFlipRow : OpenClaim := { program := "ythbgmmjgenkjpaa", sum := "e96992671a91245ddb79caaef2b1dcbcc18d3938d83ee0ca8fe14abb5c8d441e", func := "loop.example/golayoctads/laws.FnFlip", spec := "fnFlip", recurses := true, apart := false }
def FnFlipSaid : Prop := fnFlipRow.holds Try.pinned (OpenSpec.ofChange fnFlipSpec)

/-- ITS FALSE NEIGHBOUR: 'it returns false'. Refute it at one input. -/
def fnFlipWrong : ChangeSpec := { name := "fnFlip", fn := fun _ => fun
  | [d] => { results := [.lit (.bool false)], args := [d] }
  | _ => none }
def FnFlipWrongFalsely : Prop := fnFlipRow.holds Try.pinned (OpenSpec.ofChange fnFlipWrong)

/-- 'laws.FnLatticeAdd': WHATEVER THE INPUT: true; the input reads as it did. -/
def fnLatticeAddSpec : ChangeSpec := { name := "fnLatticeAdd", fn := fun _ => fun
  | [d] => { results := [.lit (.bool true)], args := [d] }
  | _ => none }
def fnLatticeAddRow : OpenClaim := { program := "ythbgmmjgenkjpaa", sum := "e96992671a91245ddb79caaef2b1dcbcc18d3938d83ee0ca8fe14abb5c8d441e", func := "loop.example/golayoctads/laws.FnLatticeAdd", spec := "fnLatticeAdd", recurses := true, apart := false }
def FnLatticeAddSaid : Prop := fnLatticeAddRow.holds Try.pinned (OpenSpec.ofChange fnLatticeAddSpec)

/-- ITS FALSE NEIGHBOUR: 'it returns false'. Refute it at one input. -/
def fnLatticeAddWrong : ChangeSpec := { name := "fnLatticeAdd", fn := fun _ => fun
  | [d] => { results := [.lit (.bool false)], args := [d] }
  | _ => none }
def FnLatticeAddWrongFalsely : Prop := fnLatticeAddRow.holds Try.pinned (OpenSpec.ofChange fnLatticeAddWrong)

/-- 'laws.FnShape': WHATEVER THE INPUT: true; the input reads as it did. -/
def fnShapeSpec : ChangeSpec := { name := "fnShape", fn := fun _ => fun
  | [d] => { results := [.lit (.bool true)], args := [d] }
  | _ => none }
def fnShapeRow : OpenClaim := { program := "ythbgmmjgenkjpaa", sum := "e96992671a91245ddb79caaef2b1dcbcc18d3938d83ee0ca8fe14abb5c8d441e", func := "loop.example/golayoctads/laws.FnShape", spec := "fnShape", recurses := true, apart := false }
def FnShapeSaid : Prop := fnShapeRow.holds Try.pinned (OpenSpec.ofChange fnShapeSpec)

/-- ITS FALSE NEIGHBOUR: 'it returns false'. Refute it at one input. -/
def fnShapeWrong : ChangeSpec := { name := "fnShape", fn := fun _ => fun
  | [d] => { results := [.lit (.bool false)], args := [d] }
  | _ => none }
def FnShapeWrongFalsely : Prop := fnShapeRow.holds Try.pinned (OpenSpec.ofChange fnShapeWrong)

/- THE SECOND FORM. 'bulk': how many values and letters a reading holds, each counted each time it is reached (what is shared counts as often as it is met; a slice's spare places count too). A statement '..UptoSaid' is the law's where the arguments, and the package variables that the reading takes, are together of bulk at most 1048576: NARROWER than '..Said'. Prove '..Said' where nothing that the law and all that it calls make is longer than what came in: it says more and counts as full. Else prove '..UptoSaid'. A law counts once. -/
mutual
def uptoBulk {H : Type} : DataW H → Nat
  | .lit (.string bytes) => bytes.length + 1
  | .lit _ => 1
  | .nil => 1
  | .ptr d => uptoBulk d + 1
  | .slice elems spare => uptoBulkAll elems + uptoBulkAll spare + 1
  | .agg parts => uptoBulkAll parts + 1
  | .iface _ d => uptoBulk d + 1
  | .map entries => uptoBulkEntries entries + 1
  | .held _ => 1
def uptoBulkAll {H : Type} : List (DataW H) → Nat
  | [] => 0
  | d :: r => uptoBulk d + uptoBulkAll r
def uptoBulkEntries {H : Type} : List (Lit × DataW H) → Nat
  | [] => 0
  | x :: r => uptoBulkEntry x + uptoBulkEntries r
def uptoBulkEntry {H : Type} : Lit × DataW H → Nat
  | (.string bytes, d) => bytes.length + uptoBulk d + 1
  | (_, d) => uptoBulk d + 1
 end
def uptoSmall : (H : Type) → List (DataW H) → Bool := fun _ ds => decide (uptoBulkAll ds ≤ 1048576)
def OpenSpec.upto (s : _root_.Go.ChangeSpec) : _root_.Go.OpenSpec := { _root_.Go.OpenSpec.ofChange s with cond := some uptoSmall }

/-- 'laws.FnFourVector', WHERE WHAT IT READS IS OF BULK AT MOST 1048576: true; the input reads as it did. -/
def fnFourVectorUptoRow : OpenClaim := { program := "ythbgmmjgenkjpaa", sum := "e96992671a91245ddb79caaef2b1dcbcc18d3938d83ee0ca8fe14abb5c8d441e", func := "loop.example/golayoctads/laws.FnFourVector", spec := "fnFourVector", unfollowed := true, recurses := true, apart := false, narrowed := true }
def FnFourVectorUptoSaid : Prop := fnFourVectorUptoRow.holds Try.pinned (OpenSpec.upto fnFourVectorSpec)

/-- 'laws.FnExactLatticeAdd', WHERE WHAT IT READS IS OF BULK AT MOST 1048576: true; the input reads as it did. -/
def fnExactLatticeAddUptoRow : OpenClaim := { program := "ythbgmmjgenkjpaa", sum := "e96992671a91245ddb79caaef2b1dcbcc18d3938d83ee0ca8fe14abb5c8d441e", func := "loop.example/golayoctads/laws.FnExactLatticeAdd", spec := "fnExactLatticeAdd", apart := false, narrowed := true }
def FnExactLatticeAddUptoSaid : Prop := fnExactLatticeAddUptoRow.holds Try.pinned (OpenSpec.upto fnExactLatticeAddSpec)

/-- 'laws.FnVector', WHERE WHAT IT READS IS OF BULK AT MOST 1048576: true; the input reads as it did. -/
def fnVectorUptoRow : OpenClaim := { program := "ythbgmmjgenkjpaa", sum := "e96992671a91245ddb79caaef2b1dcbcc18d3938d83ee0ca8fe14abb5c8d441e", func := "loop.example/golayoctads/laws.FnVector", spec := "fnVector", recurses := true, apart := false, narrowed := true }
def FnVectorUptoSaid : Prop := fnVectorUptoRow.holds Try.pinned (OpenSpec.upto fnVectorSpec)

/-- 'laws.FnThree', WHERE WHAT IT READS IS OF BULK AT MOST 1048576: true; the input reads as it did. -/
def fnThreeUptoRow : OpenClaim := { program := "ythbgmmjgenkjpaa", sum := "e96992671a91245ddb79caaef2b1dcbcc18d3938d83ee0ca8fe14abb5c8d441e", func := "loop.example/golayoctads/laws.FnThree", spec := "fnThree", apart := false, narrowed := true }
def FnThreeUptoSaid : Prop := fnThreeUptoRow.holds Try.pinned (OpenSpec.upto fnThreeSpec)

/-- 'laws.FnExactLatticeShape', WHERE WHAT IT READS IS OF BULK AT MOST 1048576: true; the input reads as it did. -/
def fnExactLatticeShapeUptoRow : OpenClaim := { program := "ythbgmmjgenkjpaa", sum := "e96992671a91245ddb79caaef2b1dcbcc18d3938d83ee0ca8fe14abb5c8d441e", func := "loop.example/golayoctads/laws.FnExactLatticeShape", spec := "fnExactLatticeShape", recurses := true, apart := false, narrowed := true }
def FnExactLatticeShapeUptoSaid : Prop := fnExactLatticeShapeUptoRow.holds Try.pinned (OpenSpec.upto fnExactLatticeShapeSpec)

/-- 'laws.FnOctadVector', WHERE WHAT IT READS IS OF BULK AT MOST 1048576: true; the input reads as it did. -/
def fnOctadVectorUptoRow : OpenClaim := { program := "ythbgmmjgenkjpaa", sum := "e96992671a91245ddb79caaef2b1dcbcc18d3938d83ee0ca8fe14abb5c8d441e", func := "loop.example/golayoctads/laws.FnOctadVector", spec := "fnOctadVector", recurses := true, apart := false, narrowed := true }
def FnOctadVectorUptoSaid : Prop := fnOctadVectorUptoRow.holds Try.pinned (OpenSpec.upto fnOctadVectorSpec)

/-- 'laws.FnInner', WHERE WHAT IT READS IS OF BULK AT MOST 1048576: true; the input reads as it did. -/
def fnInnerUptoRow : OpenClaim := { program := "ythbgmmjgenkjpaa", sum := "e96992671a91245ddb79caaef2b1dcbcc18d3938d83ee0ca8fe14abb5c8d441e", func := "loop.example/golayoctads/laws.FnInner", spec := "fnInner", recurses := true, apart := false, narrowed := true }
def FnInnerUptoSaid : Prop := fnInnerUptoRow.holds Try.pinned (OpenSpec.upto fnInnerSpec)

/-- 'laws.FnLattice', WHERE WHAT IT READS IS OF BULK AT MOST 1048576: true; the input reads as it did. -/
def fnLatticeUptoRow : OpenClaim := { program := "ythbgmmjgenkjpaa", sum := "e96992671a91245ddb79caaef2b1dcbcc18d3938d83ee0ca8fe14abb5c8d441e", func := "loop.example/golayoctads/laws.FnLattice", spec := "fnLattice", recurses := true, apart := false, narrowed := true }
def FnLatticeUptoSaid : Prop := fnLatticeUptoRow.holds Try.pinned (OpenSpec.upto fnLatticeSpec)

/-- 'laws.FnFlip', WHERE WHAT IT READS IS OF BULK AT MOST 1048576: true; the input reads as it did. -/
def fnFlipUptoRow : OpenClaim := { program := "ythbgmmjgenkjpaa", sum := "e96992671a91245ddb79caaef2b1dcbcc18d3938d83ee0ca8fe14abb5c8d441e", func := "loop.example/golayoctads/laws.FnFlip", spec := "fnFlip", recurses := true, apart := false, narrowed := true }
def FnFlipUptoSaid : Prop := fnFlipUptoRow.holds Try.pinned (OpenSpec.upto fnFlipSpec)

/-- 'laws.FnLatticeAdd', WHERE WHAT IT READS IS OF BULK AT MOST 1048576: true; the input reads as it did. -/
def fnLatticeAddUptoRow : OpenClaim := { program := "ythbgmmjgenkjpaa", sum := "e96992671a91245ddb79caaef2b1dcbcc18d3938d83ee0ca8fe14abb5c8d441e", func := "loop.example/golayoctads/laws.FnLatticeAdd", spec := "fnLatticeAdd", recurses := true, apart := false, narrowed := true }
def FnLatticeAddUptoSaid : Prop := fnLatticeAddUptoRow.holds Try.pinned (OpenSpec.upto fnLatticeAddSpec)

/-- 'laws.FnShape', WHERE WHAT IT READS IS OF BULK AT MOST 1048576: true; the input reads as it did. -/
def fnShapeUptoRow : OpenClaim := { program := "ythbgmmjgenkjpaa", sum := "e96992671a91245ddb79caaef2b1dcbcc18d3938d83ee0ca8fe14abb5c8d441e", func := "loop.example/golayoctads/laws.FnShape", spec := "fnShape", recurses := true, apart := false, narrowed := true }
def FnShapeUptoSaid : Prop := fnShapeUptoRow.holds Try.pinned (OpenSpec.upto fnShapeSpec)

end Rows
end Go.Proofs.Ythbgmmjgenkjpaa
