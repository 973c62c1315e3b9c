/- Contracts of the draws of words. -/
import Derived.Test.YteedbejlbjfkgaaWRd
import Derived.Test.YteedbejlbjfkgaaWCdS
set_option linter.unusedVariables false
namespace Go.Proofs.Yteedbejlbjfkgaa
open Go.RowKit Res

theorem grown_of_below {w w' : World} (h : Below w.heap.size w w') (row : Option Nat) : w.grownBy w' row := ⟨h.os, h.tape, h.output, h.size, fun k hk _ => h.block k hk⟩
theorem grown_trans {a b c : World} {row : Option Nat} (h : a.grownBy b row) (k : b.grownBy c row) : a.grownBy c row :=
  ⟨k.os.trans h.os, k.tape.trans h.tape, k.output.trans h.output, Nat.le_trans h.size k.size, fun i hi hne => (k.block i (Nat.lt_of_lt_of_le hi h.size) hne).trans (h.block i hi hne)⟩

theorem Reader.lt {w : World} {r K : Nat} (h : Reader w r K) : r < w.heap.size := by
  obtain ⟨a, l, cap, p, hh, -⟩ := h
  exact (Array.getElem?_eq_some_iff.1 hh).1
theorem Reader.drew {w : World} {r K : Nat} (h : Reader w r K) : Reader w.drew r K := h
theorem grown_drew {w w' : World} {row : Option Nat} (h : w.drew.grownBy w' row) : w.grownBy w' row := ⟨h.os, h.tape, h.output, h.size, fun k hk hne => h.block k hk hne⟩
theorem Reader.mono {w : World} {r K K' : Nat} (h : Reader w r K) (hK : K ≤ K') : Reader w r K' := by
  obtain ⟨a, l, cap, p, hh, hp, hrest⟩ := h
  exact ⟨a, l, cap, p, hh, by omega, hrest⟩
theorem Reader.kept {w w' : World} {r K : Nat} (h : Reader w r K) (hb : Below w.heap.size w w') : Reader w' r K := by
  have hlt := h.lt
  obtain ⟨a, l, cap, p, hh, hp, hl, hc, hby⟩ := h
  refine ⟨a, l, cap, p, by rw [hb.block r hlt]; exact hh, hp, hl, fun i hi => ?_, hby⟩
  obtain ⟨b, off, ha, hbr, hcell⟩ := hc i hi
  exact ⟨b, off, ha, hbr, by rw [hb.cell (p := ⟨b, off + i, none⟩) (by show b < _; omega)]; exact hcell⟩

/-- A draw of one int out of a reader. -/
def DrewR (p : Int → Prop) (r K : Nat) (w : World) (e : Ending) (w' : World) : Prop :=
  ∃ k : Int, e = .returned (.int .i64 k) ∧ p k ∧ Reader w' r K ∧ w.grownBy w' (some r)

end Go.Proofs.Yteedbejlbjfkgaa
