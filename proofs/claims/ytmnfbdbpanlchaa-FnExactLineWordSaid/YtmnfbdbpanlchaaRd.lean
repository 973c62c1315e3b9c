/- How a slice of ints is read, and what the call's own memory keeps: predicates on worlds, and plain laws on them. -/
import Derived.Test.YtmnfbdbpanlchaaFr
import Derived.WalkLawsBesides
import Derived.Lib.Hide
set_option linter.unusedVariables false
namespace Go.Proofs.Ytmnfbdbpanlchaa
open Go.RowKit

theorem ret_int {k : IntKind} {a b : Int} (h : a = b) : Ending.returned (.int k a) = .returned (.int k b) := by rw [h]
theorem ret_bool {a b : Bool} (h : a = b) : Ending.returned (.bool a) = .returned (.bool b) := by rw [h]

/-- A slice of kind k with the address a reads as the list l: each element has its cell. -/
def Reads (k : IntKind) (w : World) (a : Option Addr) (l : List Int) : Prop :=
  ∀ i, i < l.length → ∃ b off, a = some ⟨b, off, none⟩ ∧ b < w.heap.size ∧ w.cell? ⟨b, off + i, none⟩ = some (.int k (l.getD i 0))

theorem Reads.nil {k : IntKind} {w : World} {a : Option Addr} : Reads k w a [] := fun i h => by simp at h

theorem cell_lt {w : World} {a : Addr} {v : Value} (h : w.cell? a = some v) : a.block < w.heap.size := World.block_lt_of_cell? w a h

theorem IsRow.reads {k : IntKind} {w : World} {a : Option Addr} {len cap : Nat} {zs : List Int} (h : IsRow k w a len cap zs) :
    Reads k w a (zs.take len) ∧ (zs.take len).length = len ∧ len ≤ cap ∧ cap ≤ 9223372036854775807 ∧ ∀ n ∈ zs.take len, (Lit.int k n).wf = true := by
  rcases h with ⟨rfl, rfl, rfl, rfl⟩ | ⟨x, rfl, hl, hm, hz, hc, hw⟩
  · exact ⟨Reads.nil, rfl, by omega, by omega, by simp⟩
  · have hlen : (zs.take len).length = len := by simp [hz]; omega
    refine ⟨fun i hi => ?_, hlen, hl, by simpa [maxLen] using hm, fun n hn => hw n (List.mem_of_mem_take hn)⟩
    rw [hlen] at hi
    obtain ⟨b, off, spot⟩ := x
    have h0 := hc i (by omega)
    have hs : spot = none := by simpa [Addr.add] using World.cell?_spot (hc 0 (by omega))
    subst hs
    have e : (zs.take len).getD i 0 = zs.getD i 0 := by simp [List.getD, List.getElem?_take, hi]
    rw [e]
    rw [Addr.add_lit] at h0
    exact ⟨b, off, rfl, cell_lt h0, h0⟩

theorem Reads.kept {k : IntKind} {w w' : World} {a : Option Addr} {l : List Int} (h : Reads k w a l) (hb : Below w.heap.size w w') : Reads k w' a l := by
  intro i hi
  obtain ⟨b, off, ha, hlt, hc⟩ := h i hi
  exact ⟨b, off, ha, Nat.lt_of_lt_of_le hlt hb.size, by rw [hb.cell (p := ⟨b, off + i, none⟩) hlt]; exact hc⟩

/-- Block B or a later one: the slice value v is the call's own and holds the ints l. -/
def Owns (B : Nat) (w : World) (v : Value) (l : List Int) : Prop := w.ownsRow B 3 1 v l.length (l.map (Value.int .i64))

theorem Owns.nil (B : Nat) (w : World) : Owns B w (.slice none 0 0) [] := World.ownsRow_nil _ _ _ _

theorem Owns.shape {B : Nat} {w : World} {v : Value} {l : List Int} (h : Owns B w v l) :
    ∃ a cap, v = .slice a l.length cap ∧ Reads .i64 w a l ∧ l.length ≤ cap ∧ cap ≤ 9223372036854775807 := by
  rcases h.2 with ⟨rfl, hn⟩ | ⟨g, cap, cur, rfl, hb, hg, hnc, hcm, hcs, htake⟩
  · have : l = [] := List.eq_nil_of_length_eq_zero hn
    subst this
    exact ⟨none, 0, rfl, Reads.nil, by simp, by omega⟩
  · refine ⟨_, cap, rfl, fun i hi => ⟨g, 0, rfl, (Array.getElem?_eq_some_iff.1 hg).1, ?_⟩, hnc, by simpa [maxLen] using hcm⟩
    rw [Nat.zero_add, World.ownsRow.cellAt h i (by omega)]
    simp [List.getD, hi]

/-- The same, with the block of a list that is not empty. -/
theorem Owns.head {B : Nat} {w : World} {v : Value} {l : List Int} (h : Owns B w v l) (hl : 0 < l.length) :
    ∃ g cap, v = .slice (some ⟨g, 0, none⟩) l.length cap ∧ B ≤ g ∧ g < w.heap.size ∧ l.length ≤ cap ∧ cap ≤ 9223372036854775807 ∧
      (∀ i, i < l.length → w.cell? ⟨g, i, none⟩ = some (.int .i64 (l.getD i 0))) ∧ ∀ i, w.frozen? ⟨g, i, none⟩ = false := by
  rcases h.2 with ⟨rfl, hn⟩ | ⟨g, cap, cur, rfl, hb, hg, hnc, hcm, hcs, htake⟩
  · omega
  · refine ⟨g, cap, rfl, hb, (Array.getElem?_eq_some_iff.1 hg).1, hnc, by simpa [maxLen] using hcm, fun i hi => ?_, fun i => World.ownsRow.frozenAt h i⟩
    rw [World.ownsRow.cellAt h i (by omega)]
    simp [List.getD, hi]

theorem Owns.kept {B : Nat} {w w' : World} {v : Value} {l : List Int} (h : Owns B w v l) (hb : Below w.heap.size w w') : Owns B w' v l := by
  refine ⟨h.1, ?_⟩
  rcases h.2 with hn | ⟨g, cap, cur, rfl, hb', hgg, rest⟩
  · exact .inl hn
  · exact .inr ⟨g, cap, cur, rfl, hb', by rw [hb.block g (Array.getElem?_eq_some_iff.1 hgg).1]; exact hgg, rest⟩

theorem Owns.mono {B B' : Nat} {w : World} {v : Value} {l : List Int} (h : Owns B w v l) (hB : B' ≤ B) : Owns B' w v l := by
  refine ⟨h.1, ?_⟩
  rcases h.2 with hn | ⟨g, cap, cur, rfl, hb', rest⟩
  · exact .inl hn
  · exact .inr ⟨g, cap, cur, rfl, by omega, rest⟩

theorem infoInt : (Try.prog.info? 3).map (fun i => (i.zero, i.size, i.bytes)) = some (some (.int .i64 0), 1, 8) := by kernel_rfl

end Go.Proofs.Ytmnfbdbpanlchaa
