/- Lists that are made of noughts, and cells of owned lists. -/
import Derived.Test.YtnjfmoplemappaaRd
set_option linter.unusedVariables false
namespace Go.Proofs.Ytnjfmoplemappaa
open Go.RowKit

/-- 'make([]int, n)'. -/
theorem wpList_mk {w : World} {ops : Array Oper} {rest : List Oper} {o : Oper} {a : Act} {Q : Exit → Act → World → Prop} (hgd : o.guard = none) (x y : Operand)
    (ho : o.op = .makeSlice 22 x y) (B n : Nat) {X Y : Int} (hx : a.eval x = .int .i64 X) (hy : a.eval y = .int .i64 Y) (hX : X = (n : Int)) (hY : Y = (n : Int)) (hn : n ≤ 1000000) (hB : B ≤ w.heap.size)
    (h : ∀ w', Owns B w' (.slice (some ⟨w.heap.size, 0, none⟩) n n) (List.replicate n 0) → Below w.heap.size w w' → w.heap.size < w'.heap.size →
      wpList Try.prog ops Q rest (a.put o.dst (.slice (some ⟨w.heap.size, 0, none⟩) n n)) w') :
    wpList Try.prog ops Q (o :: rest) a w := by
  obtain ⟨i0, hi, hz0, hz1, hz2⟩ := info_parts infoInt
  refine wpList_make_full w hgd x y 22 ho B 3 i0 (.int .i64 0) 1 Try.underlying22 hi hz0 hz1 .i64 .i64 X Y n hx hy hX hY (by rw [hz2]; omega) (by unfold maxLen; omega) hB ?_
  intro w' hown hgrow
  have hO : Owns B w' (.slice (some ⟨w.heap.size, 0, none⟩) n n) (List.replicate n 0) := by
    have : w'.ownsRow B 3 1 (.slice (some ⟨w.heap.size, 0, none⟩) n n) n ((List.replicate n 0).map (Value.int .i64)) := by
      simpa [toList_madeCells_one, Value.cells] using hown
    unfold Owns
    rw [List.length_replicate]
    exact this
  exact h w' hO ((Below.refl _ _).grown hgrow (Nat.le_refl _) (by simp)) (hO.lt w.heap.size rfl).2

/-- A cell of an owned list. -/
theorem Owns.at {B g n cap : Nat} {w : World} {l : List Int} (h : Owns B w (.slice (some ⟨g, 0, none⟩) n cap) l) (j : Nat) (hj : j < l.length) :
    w.cell? ⟨g, j, none⟩ = some (.int .i64 (l.getD j 0)) ∧ w.frozen? ⟨g, j, none⟩ = false := by
  obtain ⟨g', cap', hv, -, -, -, -, hc, hf⟩ := h.head (by omega)
  simp only [Value.slice.injEq, Option.some.injEq, Addr.mk.injEq] at hv
  obtain ⟨⟨rfl, -, -⟩, -, -⟩ := hv
  exact ⟨hc j hj, hf j⟩
theorem Owns.ge {B g n cap : Nat} {w : World} {l : List Int} (h : Owns B w (.slice (some ⟨g, 0, none⟩) n cap) l) : B ≤ g ∧ g < w.heap.size := h.lt g rfl

end Go.Proofs.Ytnjfmoplemappaa
