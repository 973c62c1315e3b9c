/- Contracts of the draws of residues. -/
import Derived.Test.YteedbejlbjfkgaaWRd
set_option linter.unusedVariables false
namespace Go.Proofs.Yteedbejlbjfkgaa
open Go.RowKit

/-- What came in as code: bytes. -/
def Code (w : World) (a : Option Addr) (l : List Int) (cap : Nat) : Prop :=
  l.length ≤ cap ∧ cap ≤ 9223372036854775807 ∧ Reads .u8 w a l ∧ ∀ n ∈ l, (Lit.int .u8 n).wf = true
theorem Code.kept {w w' : World} {a : Option Addr} {l : List Int} {cap : Nat} (h : Code w a l cap) (hb : Below w.heap.size w w') : Code w' a l cap :=
  ⟨h.1, h.2.1, h.2.2.1.kept hb, h.2.2.2⟩
theorem IsRow.code {w : World} {a : Option Addr} {len cap : Nat} {zs : List Int} (h : IsRow .u8 w a len cap zs) :
    Code w a (zs.take len) cap ∧ (zs.take len).length = len := by
  obtain ⟨h1, h2, h3, h4, h5⟩ := h.reads
  exact ⟨⟨by omega, h4, h1, h5⟩, h2⟩

/-- A draw of one int. -/
def Drew (p : Int → Prop) (w : World) (e : Ending) (w' : World) : Prop :=
  ∃ k : Int, e = .returned (.int .i64 k) ∧ p k ∧ Below w.heap.size w w'

theorem below_picked {B : Nat} {a w w' : World} {r : Nat} (h : Below B a w) (hg : w.grownBy w' (some r)) (hB : B ≤ w.heap.size) (hr : B ≤ r) : Below B a w' :=
  h.grown hg hB (by rintro k hk; cases hk; exact hr)



end Go.Proofs.Yteedbejlbjfkgaa
