/-
  No cell of these rows narrows 'for every input' (looked for: loops, veiled, ifaces, maps, wideKeys, modest, calm, conditions, laid).
  DERIVED. THE GIVEN ROWS OF THIS SEAT. 16 by the template 'for every input the law returns true; each argument reads behind the call as it read before'; 0 by the template 'total and deterministic' (their statements: YtldjlabllhnpjaaTotals.lean).
  GIVEN WITH THE SEED: the statements are not yours to turn. If you find one false, say at which input.
  Laid BY PROGRAM, IN A SANDBOX (cutbox-rows.mjs): the forced cells as the released guide's own fill.sh prints them over the translation fcfd912a588f7ddf… (all of the seat's roots in one cut). By AI agents, Wed Nov 11 2026. No macro, syntax, notation, axiom, sorry.
-/
import Derived.Test.YtldjlabllhnpjaaChecked
import GoSem.Claim
import GoSem.ClaimJoined
import GoSem.ClaimMapViews
import Derived.JoinedTies
import Derived.KernelRfl
namespace Go.Proofs.Ytldjlabllhnpjaa
/- THE CELL 'sum', in the pinned program and in every row, IS THE sha256 OF THE DUMP (.gsa) THAT YtldjlabllhnpjaaProg.lean LOADS. Nothing in Lean hashes anything: it is a label: what it is worth is what the hold of that sum in a sandbox is worth. -/
noncomputable def Try.pinned : Pinned := { name := "ytldjlabllhnpjaa", sum := "fcfd912a588f7ddf79534743bbc72db3af6aa663aee8e10b38c8f8aed7b54d8c", checked := Try.checked }
namespace Rows
def none {H : Type} : Left H := { results := [], args := [] }

/-- 'laws.FnExactPermHex': WHATEVER THE INPUT: true; the input reads as it did. -/
def fnExactPermHexSpec : ChangeSpec := { name := "fnExactPermHex", fn := fun _ => fun
  | [d] => { results := [.lit (.bool true)], args := [d] }
  | _ => none }
def fnExactPermHexRow : OpenClaim := { program := "ytldjlabllhnpjaa", sum := "fcfd912a588f7ddf79534743bbc72db3af6aa663aee8e10b38c8f8aed7b54d8c", func := "loop.example/golayoctads/laws.FnExactPermHex", spec := "fnExactPermHex", unfollowed := true, recurses := true, apart := false }
def FnExactPermHexSaid : Prop := fnExactPermHexRow.holds Try.pinned (OpenSpec.ofChange fnExactPermHexSpec)

/-- ITS FALSE NEIGHBOUR: 'it returns false'. Refute it at one input. -/
def fnExactPermHexWrong : ChangeSpec := { name := "fnExactPermHex", fn := fun _ => fun
  | [d] => { results := [.lit (.bool false)], args := [d] }
  | _ => none }
def FnExactPermHexWrongFalsely : Prop := fnExactPermHexRow.holds Try.pinned (OpenSpec.ofChange fnExactPermHexWrong)

/-- 'laws.FnPerm': WHATEVER THE INPUT: true; the input reads as it did. -/
def fnPermSpec : ChangeSpec := { name := "fnPerm", fn := fun _ => fun
  | [d] => { results := [.lit (.bool true)], args := [d] }
  | _ => none }
def fnPermRow : OpenClaim := { program := "ytldjlabllhnpjaa", sum := "fcfd912a588f7ddf79534743bbc72db3af6aa663aee8e10b38c8f8aed7b54d8c", func := "loop.example/golayoctads/laws.FnPerm", spec := "fnPerm", apart := false }
def FnPermSaid : Prop := fnPermRow.holds Try.pinned (OpenSpec.ofChange fnPermSpec)

/-- ITS FALSE NEIGHBOUR: 'it returns false'. Refute it at one input. -/
def fnPermWrong : ChangeSpec := { name := "fnPerm", fn := fun _ => fun
  | [d] => { results := [.lit (.bool false)], args := [d] }
  | _ => none }
def FnPermWrongFalsely : Prop := fnPermRow.holds Try.pinned (OpenSpec.ofChange fnPermWrong)

/-- 'laws.FnPermScale': WHATEVER THE INPUT: true; the input reads as it did. -/
def fnPermScaleSpec : ChangeSpec := { name := "fnPermScale", fn := fun _ => fun
  | [d] => { results := [.lit (.bool true)], args := [d] }
  | _ => none }
def fnPermScaleRow : OpenClaim := { program := "ytldjlabllhnpjaa", sum := "fcfd912a588f7ddf79534743bbc72db3af6aa663aee8e10b38c8f8aed7b54d8c", func := "loop.example/golayoctads/laws.FnPermScale", spec := "fnPermScale", unfollowed := true, recurses := true, apart := false }
def FnPermScaleSaid : Prop := fnPermScaleRow.holds Try.pinned (OpenSpec.ofChange fnPermScaleSpec)

/-- ITS FALSE NEIGHBOUR: 'it returns false'. Refute it at one input. -/
def fnPermScaleWrong : ChangeSpec := { name := "fnPermScale", fn := fun _ => fun
  | [d] => { results := [.lit (.bool false)], args := [d] }
  | _ => none }
def FnPermScaleWrongFalsely : Prop := fnPermScaleRow.holds Try.pinned (OpenSpec.ofChange fnPermScaleWrong)

/-- 'laws.FnExactPermKeeps': WHATEVER THE INPUT: true; the input reads as it did. -/
def fnExactPermKeepsSpec : ChangeSpec := { name := "fnExactPermKeeps", fn := fun _ => fun
  | [d] => { results := [.lit (.bool true)], args := [d] }
  | _ => none }
def fnExactPermKeepsRow : OpenClaim := { program := "ytldjlabllhnpjaa", sum := "fcfd912a588f7ddf79534743bbc72db3af6aa663aee8e10b38c8f8aed7b54d8c", func := "loop.example/golayoctads/laws.FnExactPermKeeps", spec := "fnExactPermKeeps", apart := false }
def FnExactPermKeepsSaid : Prop := fnExactPermKeepsRow.holds Try.pinned (OpenSpec.ofChange fnExactPermKeepsSpec)

/-- ITS FALSE NEIGHBOUR: 'it returns false'. Refute it at one input. -/
def fnExactPermKeepsWrong : ChangeSpec := { name := "fnExactPermKeeps", fn := fun _ => fun
  | [d] => { results := [.lit (.bool false)], args := [d] }
  | _ => none }
def FnExactPermKeepsWrongFalsely : Prop := fnExactPermKeepsRow.holds Try.pinned (OpenSpec.ofChange fnExactPermKeepsWrong)

/-- 'laws.FnPermHex': WHATEVER THE INPUT: true; the input reads as it did. -/
def fnPermHexSpec : ChangeSpec := { name := "fnPermHex", fn := fun _ => fun
  | [d] => { results := [.lit (.bool true)], args := [d] }
  | _ => none }
def fnPermHexRow : OpenClaim := { program := "ytldjlabllhnpjaa", sum := "fcfd912a588f7ddf79534743bbc72db3af6aa663aee8e10b38c8f8aed7b54d8c", func := "loop.example/golayoctads/laws.FnPermHex", spec := "fnPermHex", unfollowed := true, recurses := true, apart := false }
def FnPermHexSaid : Prop := fnPermHexRow.holds Try.pinned (OpenSpec.ofChange fnPermHexSpec)

/-- ITS FALSE NEIGHBOUR: 'it returns false'. Refute it at one input. -/
def fnPermHexWrong : ChangeSpec := { name := "fnPermHex", fn := fun _ => fun
  | [d] => { results := [.lit (.bool false)], args := [d] }
  | _ => none }
def FnPermHexWrongFalsely : Prop := fnPermHexRow.holds Try.pinned (OpenSpec.ofChange fnPermHexWrong)

/-- 'laws.FnTimes': WHATEVER THE INPUT: true; the input reads as it did. -/
def fnTimesSpec : ChangeSpec := { name := "fnTimes", fn := fun _ => fun
  | [d] => { results := [.lit (.bool true)], args := [d] }
  | _ => none }
def fnTimesRow : OpenClaim := { program := "ytldjlabllhnpjaa", sum := "fcfd912a588f7ddf79534743bbc72db3af6aa663aee8e10b38c8f8aed7b54d8c", func := "loop.example/golayoctads/laws.FnTimes", spec := "fnTimes", apart := false }
def FnTimesSaid : Prop := fnTimesRow.holds Try.pinned (OpenSpec.ofChange fnTimesSpec)

/-- ITS FALSE NEIGHBOUR: 'it returns false'. Refute it at one input. -/
def fnTimesWrong : ChangeSpec := { name := "fnTimes", fn := fun _ => fun
  | [d] => { results := [.lit (.bool false)], args := [d] }
  | _ => none }
def FnTimesWrongFalsely : Prop := fnTimesRow.holds Try.pinned (OpenSpec.ofChange fnTimesWrong)

/-- 'laws.FnPermWord': WHATEVER THE INPUT: true; the input reads as it did. -/
def fnPermWordSpec : ChangeSpec := { name := "fnPermWord", fn := fun _ => fun
  | [d] => { results := [.lit (.bool true)], args := [d] }
  | _ => none }
def fnPermWordRow : OpenClaim := { program := "ytldjlabllhnpjaa", sum := "fcfd912a588f7ddf79534743bbc72db3af6aa663aee8e10b38c8f8aed7b54d8c", func := "loop.example/golayoctads/laws.FnPermWord", spec := "fnPermWord", apart := false }
def FnPermWordSaid : Prop := fnPermWordRow.holds Try.pinned (OpenSpec.ofChange fnPermWordSpec)

/-- ITS FALSE NEIGHBOUR: 'it returns false'. Refute it at one input. -/
def fnPermWordWrong : ChangeSpec := { name := "fnPermWord", fn := fun _ => fun
  | [d] => { results := [.lit (.bool false)], args := [d] }
  | _ => none }
def FnPermWordWrongFalsely : Prop := fnPermWordRow.holds Try.pinned (OpenSpec.ofChange fnPermWordWrong)

/-- 'laws.FnExactPermCycles': WHATEVER THE INPUT: true; the input reads as it did. -/
def fnExactPermCyclesSpec : ChangeSpec := { name := "fnExactPermCycles", fn := fun _ => fun
  | [d] => { results := [.lit (.bool true)], args := [d] }
  | _ => none }
def fnExactPermCyclesRow : OpenClaim := { program := "ytldjlabllhnpjaa", sum := "fcfd912a588f7ddf79534743bbc72db3af6aa663aee8e10b38c8f8aed7b54d8c", func := "loop.example/golayoctads/laws.FnExactPermCycles", spec := "fnExactPermCycles", recurses := true, apart := false }
def FnExactPermCyclesSaid : Prop := fnExactPermCyclesRow.holds Try.pinned (OpenSpec.ofChange fnExactPermCyclesSpec)

/-- ITS FALSE NEIGHBOUR: 'it returns false'. Refute it at one input. -/
def fnExactPermCyclesWrong : ChangeSpec := { name := "fnExactPermCycles", fn := fun _ => fun
  | [d] => { results := [.lit (.bool false)], args := [d] }
  | _ => none }
def FnExactPermCyclesWrongFalsely : Prop := fnExactPermCyclesRow.holds Try.pinned (OpenSpec.ofChange fnExactPermCyclesWrong)

/-- 'laws.FnExactPermOrder': WHATEVER THE INPUT: true; the input reads as it did. -/
def fnExactPermOrderSpec : ChangeSpec := { name := "fnExactPermOrder", fn := fun _ => fun
  | [d] => { results := [.lit (.bool true)], args := [d] }
  | _ => none }
def fnExactPermOrderRow : OpenClaim := { program := "ytldjlabllhnpjaa", sum := "fcfd912a588f7ddf79534743bbc72db3af6aa663aee8e10b38c8f8aed7b54d8c", func := "loop.example/golayoctads/laws.FnExactPermOrder", spec := "fnExactPermOrder", recurses := true, apart := false }
def FnExactPermOrderSaid : Prop := fnExactPermOrderRow.holds Try.pinned (OpenSpec.ofChange fnExactPermOrderSpec)

/-- ITS FALSE NEIGHBOUR: 'it returns false'. Refute it at one input. -/
def fnExactPermOrderWrong : ChangeSpec := { name := "fnExactPermOrder", fn := fun _ => fun
  | [d] => { results := [.lit (.bool false)], args := [d] }
  | _ => none }
def FnExactPermOrderWrongFalsely : Prop := fnExactPermOrderRow.holds Try.pinned (OpenSpec.ofChange fnExactPermOrderWrong)

/-- 'laws.FnCycles': WHATEVER THE INPUT: true; the input reads as it did. -/
def fnCyclesSpec : ChangeSpec := { name := "fnCycles", fn := fun _ => fun
  | [d] => { results := [.lit (.bool true)], args := [d] }
  | _ => none }
def fnCyclesRow : OpenClaim := { program := "ytldjlabllhnpjaa", sum := "fcfd912a588f7ddf79534743bbc72db3af6aa663aee8e10b38c8f8aed7b54d8c", func := "loop.example/golayoctads/laws.FnCycles", spec := "fnCycles", recurses := true, apart := false }
def FnCyclesSaid : Prop := fnCyclesRow.holds Try.pinned (OpenSpec.ofChange fnCyclesSpec)

/-- ITS FALSE NEIGHBOUR: 'it returns false'. Refute it at one input. -/
def fnCyclesWrong : ChangeSpec := { name := "fnCycles", fn := fun _ => fun
  | [d] => { results := [.lit (.bool false)], args := [d] }
  | _ => none }
def FnCyclesWrongFalsely : Prop := fnCyclesRow.holds Try.pinned (OpenSpec.ofChange fnCyclesWrong)

/-- 'laws.FnTurned': WHATEVER THE INPUT: true; the input reads as it did. -/
def fnTurnedSpec : ChangeSpec := { name := "fnTurned", fn := fun _ => fun
  | [d] => { results := [.lit (.bool true)], args := [d] }
  | _ => none }
def fnTurnedRow : OpenClaim := { program := "ytldjlabllhnpjaa", sum := "fcfd912a588f7ddf79534743bbc72db3af6aa663aee8e10b38c8f8aed7b54d8c", func := "loop.example/golayoctads/laws.FnTurned", spec := "fnTurned", recurses := true, apart := false }
def FnTurnedSaid : Prop := fnTurnedRow.holds Try.pinned (OpenSpec.ofChange fnTurnedSpec)

/-- ITS FALSE NEIGHBOUR: 'it returns false'. Refute it at one input. -/
def fnTurnedWrong : ChangeSpec := { name := "fnTurned", fn := fun _ => fun
  | [d] => { results := [.lit (.bool false)], args := [d] }
  | _ => none }
def FnTurnedWrongFalsely : Prop := fnTurnedRow.holds Try.pinned (OpenSpec.ofChange fnTurnedWrong)

/-- 'laws.FnFixed': WHATEVER THE INPUT: true; the input reads as it did. -/
def fnFixedSpec : ChangeSpec := { name := "fnFixed", fn := fun _ => fun
  | [d] => { results := [.lit (.bool true)], args := [d] }
  | _ => none }
def fnFixedRow : OpenClaim := { program := "ytldjlabllhnpjaa", sum := "fcfd912a588f7ddf79534743bbc72db3af6aa663aee8e10b38c8f8aed7b54d8c", func := "loop.example/golayoctads/laws.FnFixed", spec := "fnFixed", unfollowed := true, recurses := true, apart := false }
def FnFixedSaid : Prop := fnFixedRow.holds Try.pinned (OpenSpec.ofChange fnFixedSpec)

/-- ITS FALSE NEIGHBOUR: 'it returns false'. Refute it at one input. -/
def fnFixedWrong : ChangeSpec := { name := "fnFixed", fn := fun _ => fun
  | [d] => { results := [.lit (.bool false)], args := [d] }
  | _ => none }
def FnFixedWrongFalsely : Prop := fnFixedRow.holds Try.pinned (OpenSpec.ofChange fnFixedWrong)

/-- 'laws.FnOrder': WHATEVER THE INPUT: true; the input reads as it did. -/
def fnOrderSpec : ChangeSpec := { name := "fnOrder", fn := fun _ => fun
  | [d] => { results := [.lit (.bool true)], args := [d] }
  | _ => none }
def fnOrderRow : OpenClaim := { program := "ytldjlabllhnpjaa", sum := "fcfd912a588f7ddf79534743bbc72db3af6aa663aee8e10b38c8f8aed7b54d8c", func := "loop.example/golayoctads/laws.FnOrder", spec := "fnOrder", recurses := true, apart := false }
def FnOrderSaid : Prop := fnOrderRow.holds Try.pinned (OpenSpec.ofChange fnOrderSpec)

/-- ITS FALSE NEIGHBOUR: 'it returns false'. Refute it at one input. -/
def fnOrderWrong : ChangeSpec := { name := "fnOrder", fn := fun _ => fun
  | [d] => { results := [.lit (.bool false)], args := [d] }
  | _ => none }
def FnOrderWrongFalsely : Prop := fnOrderRow.holds Try.pinned (OpenSpec.ofChange fnOrderWrong)

/-- 'laws.FnKeeps': WHATEVER THE INPUT: true; the input reads as it did. -/
def fnKeepsSpec : ChangeSpec := { name := "fnKeeps", fn := fun _ => fun
  | [d] => { results := [.lit (.bool true)], args := [d] }
  | _ => none }
def fnKeepsRow : OpenClaim := { program := "ytldjlabllhnpjaa", sum := "fcfd912a588f7ddf79534743bbc72db3af6aa663aee8e10b38c8f8aed7b54d8c", func := "loop.example/golayoctads/laws.FnKeeps", spec := "fnKeeps", unfollowed := true, recurses := true, apart := false }
def FnKeepsSaid : Prop := fnKeepsRow.holds Try.pinned (OpenSpec.ofChange fnKeepsSpec)

/-- ITS FALSE NEIGHBOUR: 'it returns false'. Refute it at one input. -/
def fnKeepsWrong : ChangeSpec := { name := "fnKeeps", fn := fun _ => fun
  | [d] => { results := [.lit (.bool false)], args := [d] }
  | _ => none }
def FnKeepsWrongFalsely : Prop := fnKeepsRow.holds Try.pinned (OpenSpec.ofChange fnKeepsWrong)

/-- 'laws.FnLineWord': WHATEVER THE INPUT: true; the input reads as it did. -/
def fnLineWordSpec : ChangeSpec := { name := "fnLineWord", fn := fun _ => fun
  | [d] => { results := [.lit (.bool true)], args := [d] }
  | _ => none }
def fnLineWordRow : OpenClaim := { program := "ytldjlabllhnpjaa", sum := "fcfd912a588f7ddf79534743bbc72db3af6aa663aee8e10b38c8f8aed7b54d8c", func := "loop.example/golayoctads/laws.FnLineWord", spec := "fnLineWord", unfollowed := true, recurses := true, apart := false }
def FnLineWordSaid : Prop := fnLineWordRow.holds Try.pinned (OpenSpec.ofChange fnLineWordSpec)

/-- ITS FALSE NEIGHBOUR: 'it returns false'. Refute it at one input. -/
def fnLineWordWrong : ChangeSpec := { name := "fnLineWord", fn := fun _ => fun
  | [d] => { results := [.lit (.bool false)], args := [d] }
  | _ => none }
def FnLineWordWrongFalsely : Prop := fnLineWordRow.holds Try.pinned (OpenSpec.ofChange fnLineWordWrong)

/-- 'laws.FnLinePerm': WHATEVER THE INPUT: true; the input reads as it did. -/
def fnLinePermSpec : ChangeSpec := { name := "fnLinePerm", fn := fun _ => fun
  | [d] => { results := [.lit (.bool true)], args := [d] }
  | _ => none }
def fnLinePermRow : OpenClaim := { program := "ytldjlabllhnpjaa", sum := "fcfd912a588f7ddf79534743bbc72db3af6aa663aee8e10b38c8f8aed7b54d8c", func := "loop.example/golayoctads/laws.FnLinePerm", spec := "fnLinePerm", unfollowed := true, recurses := true, apart := false }
def FnLinePermSaid : Prop := fnLinePermRow.holds Try.pinned (OpenSpec.ofChange fnLinePermSpec)

/-- ITS FALSE NEIGHBOUR: 'it returns false'. Refute it at one input. -/
def fnLinePermWrong : ChangeSpec := { name := "fnLinePerm", fn := fun _ => fun
  | [d] => { results := [.lit (.bool false)], args := [d] }
  | _ => none }
def FnLinePermWrongFalsely : Prop := fnLinePermRow.holds Try.pinned (OpenSpec.ofChange fnLinePermWrong)

/- THE SECOND FORM. 'bulk': how many values and letters a reading holds, each counted each time it is reached (what is shared counts as often as it is met; a slice's spare places count too). A statement '..UptoSaid' is the law's where the arguments, and the package variables that the reading takes, are together of bulk at most 1048576: NARROWER than '..Said'. Prove '..Said' where nothing that the law and all that it calls make is longer than what came in: it says more and counts as full. Else prove '..UptoSaid'. A law counts once. -/
mutual
def uptoBulk {H : Type} : DataW H → Nat
  | .lit (.string bytes) => bytes.length + 1
  | .lit _ => 1
  | .nil => 1
  | .ptr d => uptoBulk d + 1
  | .slice elems spare => uptoBulkAll elems + uptoBulkAll spare + 1
  | .agg parts => uptoBulkAll parts + 1
  | .iface _ d => uptoBulk d + 1
  | .map entries => uptoBulkEntries entries + 1
  | .held _ => 1
def uptoBulkAll {H : Type} : List (DataW H) → Nat
  | [] => 0
  | d :: r => uptoBulk d + uptoBulkAll r
def uptoBulkEntries {H : Type} : List (Lit × DataW H) → Nat
  | [] => 0
  | x :: r => uptoBulkEntry x + uptoBulkEntries r
def uptoBulkEntry {H : Type} : Lit × DataW H → Nat
  | (.string bytes, d) => bytes.length + uptoBulk d + 1
  | (_, d) => uptoBulk d + 1
 end
def uptoSmall : (H : Type) → List (DataW H) → Bool := fun _ ds => decide (uptoBulkAll ds ≤ 1048576)
def OpenSpec.upto (s : _root_.Go.ChangeSpec) : _root_.Go.OpenSpec := { _root_.Go.OpenSpec.ofChange s with cond := some uptoSmall }

/-- 'laws.FnExactPermHex', WHERE WHAT IT READS IS OF BULK AT MOST 1048576: true; the input reads as it did. -/
def fnExactPermHexUptoRow : OpenClaim := { program := "ytldjlabllhnpjaa", sum := "fcfd912a588f7ddf79534743bbc72db3af6aa663aee8e10b38c8f8aed7b54d8c", func := "loop.example/golayoctads/laws.FnExactPermHex", spec := "fnExactPermHex", unfollowed := true, recurses := true, apart := false, narrowed := true }
def FnExactPermHexUptoSaid : Prop := fnExactPermHexUptoRow.holds Try.pinned (OpenSpec.upto fnExactPermHexSpec)

/-- 'laws.FnPerm', WHERE WHAT IT READS IS OF BULK AT MOST 1048576: true; the input reads as it did. -/
def fnPermUptoRow : OpenClaim := { program := "ytldjlabllhnpjaa", sum := "fcfd912a588f7ddf79534743bbc72db3af6aa663aee8e10b38c8f8aed7b54d8c", func := "loop.example/golayoctads/laws.FnPerm", spec := "fnPerm", apart := false, narrowed := true }
def FnPermUptoSaid : Prop := fnPermUptoRow.holds Try.pinned (OpenSpec.upto fnPermSpec)

/-- 'laws.FnPermScale', WHERE WHAT IT READS IS OF BULK AT MOST 1048576: true; the input reads as it did. -/
def fnPermScaleUptoRow : OpenClaim := { program := "ytldjlabllhnpjaa", sum := "fcfd912a588f7ddf79534743bbc72db3af6aa663aee8e10b38c8f8aed7b54d8c", func := "loop.example/golayoctads/laws.FnPermScale", spec := "fnPermScale", unfollowed := true, recurses := true, apart := false, narrowed := true }
def FnPermScaleUptoSaid : Prop := fnPermScaleUptoRow.holds Try.pinned (OpenSpec.upto fnPermScaleSpec)

/-- 'laws.FnExactPermKeeps', WHERE WHAT IT READS IS OF BULK AT MOST 1048576: true; the input reads as it did. -/
def fnExactPermKeepsUptoRow : OpenClaim := { program := "ytldjlabllhnpjaa", sum := "fcfd912a588f7ddf79534743bbc72db3af6aa663aee8e10b38c8f8aed7b54d8c", func := "loop.example/golayoctads/laws.FnExactPermKeeps", spec := "fnExactPermKeeps", apart := false, narrowed := true }
def FnExactPermKeepsUptoSaid : Prop := fnExactPermKeepsUptoRow.holds Try.pinned (OpenSpec.upto fnExactPermKeepsSpec)

/-- 'laws.FnPermHex', WHERE WHAT IT READS IS OF BULK AT MOST 1048576: true; the input reads as it did. -/
def fnPermHexUptoRow : OpenClaim := { program := "ytldjlabllhnpjaa", sum := "fcfd912a588f7ddf79534743bbc72db3af6aa663aee8e10b38c8f8aed7b54d8c", func := "loop.example/golayoctads/laws.FnPermHex", spec := "fnPermHex", unfollowed := true, recurses := true, apart := false, narrowed := true }
def FnPermHexUptoSaid : Prop := fnPermHexUptoRow.holds Try.pinned (OpenSpec.upto fnPermHexSpec)

/-- 'laws.FnTimes', WHERE WHAT IT READS IS OF BULK AT MOST 1048576: true; the input reads as it did. -/
def fnTimesUptoRow : OpenClaim := { program := "ytldjlabllhnpjaa", sum := "fcfd912a588f7ddf79534743bbc72db3af6aa663aee8e10b38c8f8aed7b54d8c", func := "loop.example/golayoctads/laws.FnTimes", spec := "fnTimes", apart := false, narrowed := true }
def FnTimesUptoSaid : Prop := fnTimesUptoRow.holds Try.pinned (OpenSpec.upto fnTimesSpec)

/-- 'laws.FnPermWord', WHERE WHAT IT READS IS OF BULK AT MOST 1048576: true; the input reads as it did. -/
def fnPermWordUptoRow : OpenClaim := { program := "ytldjlabllhnpjaa", sum := "fcfd912a588f7ddf79534743bbc72db3af6aa663aee8e10b38c8f8aed7b54d8c", func := "loop.example/golayoctads/laws.FnPermWord", spec := "fnPermWord", apart := false, narrowed := true }
def FnPermWordUptoSaid : Prop := fnPermWordUptoRow.holds Try.pinned (OpenSpec.upto fnPermWordSpec)

/-- 'laws.FnExactPermCycles', WHERE WHAT IT READS IS OF BULK AT MOST 1048576: true; the input reads as it did. -/
def fnExactPermCyclesUptoRow : OpenClaim := { program := "ytldjlabllhnpjaa", sum := "fcfd912a588f7ddf79534743bbc72db3af6aa663aee8e10b38c8f8aed7b54d8c", func := "loop.example/golayoctads/laws.FnExactPermCycles", spec := "fnExactPermCycles", recurses := true, apart := false, narrowed := true }
def FnExactPermCyclesUptoSaid : Prop := fnExactPermCyclesUptoRow.holds Try.pinned (OpenSpec.upto fnExactPermCyclesSpec)

/-- 'laws.FnExactPermOrder', WHERE WHAT IT READS IS OF BULK AT MOST 1048576: true; the input reads as it did. -/
def fnExactPermOrderUptoRow : OpenClaim := { program := "ytldjlabllhnpjaa", sum := "fcfd912a588f7ddf79534743bbc72db3af6aa663aee8e10b38c8f8aed7b54d8c", func := "loop.example/golayoctads/laws.FnExactPermOrder", spec := "fnExactPermOrder", recurses := true, apart := false, narrowed := true }
def FnExactPermOrderUptoSaid : Prop := fnExactPermOrderUptoRow.holds Try.pinned (OpenSpec.upto fnExactPermOrderSpec)

/-- 'laws.FnCycles', WHERE WHAT IT READS IS OF BULK AT MOST 1048576: true; the input reads as it did. -/
def fnCyclesUptoRow : OpenClaim := { program := "ytldjlabllhnpjaa", sum := "fcfd912a588f7ddf79534743bbc72db3af6aa663aee8e10b38c8f8aed7b54d8c", func := "loop.example/golayoctads/laws.FnCycles", spec := "fnCycles", recurses := true, apart := false, narrowed := true }
def FnCyclesUptoSaid : Prop := fnCyclesUptoRow.holds Try.pinned (OpenSpec.upto fnCyclesSpec)

/-- 'laws.FnTurned', WHERE WHAT IT READS IS OF BULK AT MOST 1048576: true; the input reads as it did. -/
def fnTurnedUptoRow : OpenClaim := { program := "ytldjlabllhnpjaa", sum := "fcfd912a588f7ddf79534743bbc72db3af6aa663aee8e10b38c8f8aed7b54d8c", func := "loop.example/golayoctads/laws.FnTurned", spec := "fnTurned", recurses := true, apart := false, narrowed := true }
def FnTurnedUptoSaid : Prop := fnTurnedUptoRow.holds Try.pinned (OpenSpec.upto fnTurnedSpec)

/-- 'laws.FnFixed', WHERE WHAT IT READS IS OF BULK AT MOST 1048576: true; the input reads as it did. -/
def fnFixedUptoRow : OpenClaim := { program := "ytldjlabllhnpjaa", sum := "fcfd912a588f7ddf79534743bbc72db3af6aa663aee8e10b38c8f8aed7b54d8c", func := "loop.example/golayoctads/laws.FnFixed", spec := "fnFixed", unfollowed := true, recurses := true, apart := false, narrowed := true }
def FnFixedUptoSaid : Prop := fnFixedUptoRow.holds Try.pinned (OpenSpec.upto fnFixedSpec)

/-- 'laws.FnOrder', WHERE WHAT IT READS IS OF BULK AT MOST 1048576: true; the input reads as it did. -/
def fnOrderUptoRow : OpenClaim := { program := "ytldjlabllhnpjaa", sum := "fcfd912a588f7ddf79534743bbc72db3af6aa663aee8e10b38c8f8aed7b54d8c", func := "loop.example/golayoctads/laws.FnOrder", spec := "fnOrder", recurses := true, apart := false, narrowed := true }
def FnOrderUptoSaid : Prop := fnOrderUptoRow.holds Try.pinned (OpenSpec.upto fnOrderSpec)

/-- 'laws.FnKeeps', WHERE WHAT IT READS IS OF BULK AT MOST 1048576: true; the input reads as it did. -/
def fnKeepsUptoRow : OpenClaim := { program := "ytldjlabllhnpjaa", sum := "fcfd912a588f7ddf79534743bbc72db3af6aa663aee8e10b38c8f8aed7b54d8c", func := "loop.example/golayoctads/laws.FnKeeps", spec := "fnKeeps", unfollowed := true, recurses := true, apart := false, narrowed := true }
def FnKeepsUptoSaid : Prop := fnKeepsUptoRow.holds Try.pinned (OpenSpec.upto fnKeepsSpec)

/-- 'laws.FnLineWord', WHERE WHAT IT READS IS OF BULK AT MOST 1048576: true; the input reads as it did. -/
def fnLineWordUptoRow : OpenClaim := { program := "ytldjlabllhnpjaa", sum := "fcfd912a588f7ddf79534743bbc72db3af6aa663aee8e10b38c8f8aed7b54d8c", func := "loop.example/golayoctads/laws.FnLineWord", spec := "fnLineWord", unfollowed := true, recurses := true, apart := false, narrowed := true }
def FnLineWordUptoSaid : Prop := fnLineWordUptoRow.holds Try.pinned (OpenSpec.upto fnLineWordSpec)

/-- 'laws.FnLinePerm', WHERE WHAT IT READS IS OF BULK AT MOST 1048576: true; the input reads as it did. -/
def fnLinePermUptoRow : OpenClaim := { program := "ytldjlabllhnpjaa", sum := "fcfd912a588f7ddf79534743bbc72db3af6aa663aee8e10b38c8f8aed7b54d8c", func := "loop.example/golayoctads/laws.FnLinePerm", spec := "fnLinePerm", unfollowed := true, recurses := true, apart := false, narrowed := true }
def FnLinePermUptoSaid : Prop := fnLinePermUptoRow.holds Try.pinned (OpenSpec.upto fnLinePermSpec)

end Rows
end Go.Proofs.Ytldjlabllhnpjaa
