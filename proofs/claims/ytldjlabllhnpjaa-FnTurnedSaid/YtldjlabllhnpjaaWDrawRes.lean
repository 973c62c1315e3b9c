/- Contracts of the draws of residues. -/
import Derived.Test.YtldjlabllhnpjaaWRd
set_option linter.unusedVariables false
namespace Go.Proofs.Ytldjlabllhnpjaa
open Go.RowKit

/-- What came in as code: bytes. -/
def Code (w : World) (a : Option Addr) (l : List Int) (cap : Nat) : Prop :=
  l.length ≤ cap ∧ cap ≤ 9223372036854775807 ∧ Reads .u8 w a l ∧ ∀ n ∈ l, (Lit.int .u8 n).wf = true
theorem Code.kept {w w' : World} {a : Option Addr} {l : List Int} {cap : Nat} (h : Code w a l cap) (hb : Below w.heap.size w w') : Code w' a l cap :=
  ⟨h.1, h.2.1, h.2.2.1.kept hb, h.2.2.2⟩
theorem IsRow.code {w : World} {a : Option Addr} {len cap : Nat} {zs : List Int} (h : IsRow .u8 w a len cap zs) :
    Code w a (zs.take len) cap ∧ (zs.take len).length = len := by
  obtain ⟨h1, h2, h3, h4, h5⟩ := h.reads
  exact ⟨⟨by omega, h4, h1, h5⟩, h2⟩

/-- A draw of one int. -/
def Drew (p : Int → Prop) (w : World) (e : Ending) (w' : World) : Prop :=
  ∃ k : Int, e = .returned (.int .i64 k) ∧ p k ∧ Below w.heap.size w w'

theorem below_picked {B : Nat} {a w w' : World} {r : Nat} (h : Below B a w) (hg : w.grownBy w' (some r)) (hB : B ≤ w.heap.size) (hr : B ≤ r) : Below B a w' :=
  h.grown hg hB (by rintro k hk; cases hk; exact hr)

theorem DrawResidueSquare_any (a : Option Addr) (cap : Nat) (l : List Int) (w : World) (hc : Code w a l cap) :
    Calls Try.prog 105 #[.slice a l.length cap] w (Drew (fun k => -1 ≤ k ∧ k ≤ 23) w) := by
  go_enter Try.func105, Try.ntmps105
  go_wp2_with fail
  refine (l6Open_any _ _ l _ hc.1 hc.2.1 hc.2.2.1 hc.2.2.2).mono ?_
  rintro e w1 ⟨rfl, hR1, hb1, hz1⟩
  go_wp2_with fail
  refine (pick_any _ _ _ _ hR1 (by omega) (by omega) (by omega)).mono ?_
  rintro e w2 ⟨k, rfl, hk0, hk1, hR2, hg2, hz2⟩
  go_wp2_with fail
  go_ret
  exact ⟨_, rfl, ⟨by omega, by omega⟩, below_picked hb1 hg2 (by omega) (Nat.le_refl _)⟩

theorem DrawLineWord_any (a : Option Addr) (cap : Nat) (l : List Int) (w : World) (hc : Code w a l cap) :
    Calls Try.prog 62 #[.slice a l.length cap] w (Drew (fun k => -1 ≤ k ∧ k ≤ 23) w) := by
  go_enter Try.func62, Try.ntmps62
  go_wp2_with fail
  refine (DrawResidueSquare_any _ _ l _ hc).mono ?_
  rintro e w1 ⟨k, rfl, h1, h2⟩
  go_wp2_with fail
  go_ret
  exact ⟨k, rfl, h1, h2⟩

end Go.Proofs.Ytldjlabllhnpjaa
