/- Contracts of the exact laws' helpers that mark a list and ask for the marks. -/
import Derived.Test.YtmgdcnibmifdeaaGreatDoorRd
set_option linter.unusedVariables false
namespace Go.Proofs.YtmgdcnibmifdeaaGreatDoor
open Go.RowKit

/-- n numbers from k on. -/
def marks (n : Nat) (k : Int) : List Int := (List.range n).map fun (i : Nat) => k + (i : Int)
theorem marks_length (n : Nat) (k : Int) : (marks n k).length = n := by simp [marks]
theorem marks_get (n : Nat) (k : Int) (i : Nat) (h : i < n) : (marks n k).getD i 0 = k + (i : Int) := by simp [marks, List.getD, h]
theorem marks_succ (n : Nat) (k : Int) : marks (n + 1) k = marks n k ++ [k + (n : Int)] := by simp [marks, List.range_succ]

def markTo (l : List Int) (k : Int) (i : Nat) : List Int := marks i k ++ l.drop i
theorem markTo_length (l : List Int) (k : Int) (i : Nat) (h : i ≤ l.length) : (markTo l k i).length = l.length := by simp [markTo, marks_length]; omega
theorem markTo_all (l : List Int) (k : Int) : markTo l k l.length = marks l.length k := by simp [markTo]
theorem markTo_succ (l : List Int) (k : Int) (i : Nat) (h : i < l.length) : (markTo l k i).set i (k + (i : Int)) = markTo l k (i + 1) := by
  unfold markTo
  rw [List.set_append_right _ _ (by rw [marks_length]; omega), marks_length, Nat.sub_self, List.drop_eq_getElem_cons h, List.set_cons_zero, marks_succ, List.append_assoc]
  rfl

theorem grown_next {a b c : World} {row : Option Nat} (h : a.grownBy b row) (k : b.grownBy c row) : a.grownBy c row :=
  ⟨k.os.trans h.os, k.tape.trans h.tape, k.output.trans h.output, Nat.le_trans h.size k.size, fun i hi hne => (k.block i (Nat.lt_of_lt_of_le hi h.size) hne).trans (h.block i hi hne)⟩
theorem bel2 {a b c : World} (h : Below a.heap.size a b) (k : Below b.heap.size b c) : Below a.heap.size a c := h.trans (k.mono h.size)

/-- An owned list stays while another one is written. -/
theorem Owns.grown {B : Nat} {w w' : World} {v : Value} {l : List Int} (h : Owns B w v l) {row : Option Nat} (hg : w.grownBy w' row) (hne : ∀ j, v.ownBlock = some j → some j ≠ row) : Owns B w' v l := by
  refine ⟨h.1, ?_⟩
  rcases h.2 with hn | ⟨g, cap, cur, rfl, hb', hgg, rest⟩
  · exact .inl hn
  · exact .inr ⟨g, cap, cur, rfl, hb', by rw [hg.block g (Array.getElem?_eq_some_iff.1 hgg).1 (hne g rfl)]; exact hgg, rest⟩
/-- An elder list stays while a younger one is written. -/
theorem Owns.past_lo {B BX : Nat} {w0 w w' : World} {v x : Value} {l m : List Int} (h0 : Owns B w0 v l) (h : Owns B w v l) (hX : Owns BX w' x m) (hg : w.grownBy w' x.ownBlock) (hle : w0.heap.size ≤ BX) : Owns B w' v l :=
  h.grown hg fun j hj he => by
    have h1 := (h0.lt j hj).2
    have h2 := (hX.lt j he.symm).1
    omega
/-- A younger list stays while an elder one is written. -/
theorem Owns.past_hi {B BX : Nat} {wX w w' : World} {v x : Value} {l m : List Int} (h : Owns B w v l) (hX : Owns BX wX x m) (hg : w.grownBy w' x.ownBlock) (hle : wX.heap.size ≤ B) : Owns B w' v l :=
  h.grown hg fun j hj he => by
    have h1 := (h.lt j hj).1
    have h2 := (hX.lt j he.symm).2
    omega

end Go.Proofs.YtmgdcnibmifdeaaGreatDoor
