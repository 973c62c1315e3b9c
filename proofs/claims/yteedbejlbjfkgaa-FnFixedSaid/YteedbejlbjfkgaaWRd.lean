/- Contracts of the drawing of numbers: l6Open makes a reader, pick reads a number from 0 to n - 1. -/
import Derived.Test.YteedbejlbjfkgaaRd
import Derived.Test.YteedbejlbjfkgaaBit
import Derived.BigQuiet
import Derived.Deep.QuietTactic
set_option linter.unusedVariables false
namespace Go.Proofs.Yteedbejlbjfkgaa
open Go.RowKit

/-- Block r is a reader that has read at most K numbers. -/
def Reader (w : World) (r K : Nat) : Prop :=
  ∃ (a : Option Addr) (l : List Int) (cap : Nat) (p : Nat), w.heap[r]? = some (.cells #[.slice a l.length cap, .int .i64 p] 55 (0, 0)) ∧ p ≤ K ∧ l.length ≤ 2000 ∧
    (∀ i, i < l.length → ∃ b off, a = some ⟨b, off, none⟩ ∧ b < r ∧ w.cell? ⟨b, off + i, none⟩ = some (.int .u8 (l.getD i 0))) ∧ ∀ i, 0 ≤ l.getD i 0 ∧ l.getD i 0 ≤ 255

theorem l6Open_any (a : Option Addr) (cap : Nat) (l : List Int) (w : World) (hl : l.length ≤ cap) (hc : cap ≤ 9223372036854775807) (hr : Reads .u8 w a l) (hw : ∀ n ∈ l, (Lit.int .u8 n).wf = true) :
    Calls Try.prog 30 #[.slice a l.length cap] w fun e w' => e = .returned (.pointer (some ⟨w.heap.size, 0, none⟩)) ∧ Reader w' w.heap.size 0 ∧ Below w.heap.size w w' ∧ w'.heap.size = w.heap.size + 1 := by
  have hby : ∀ i, 0 ≤ l.getD i 0 ∧ l.getD i 0 ≤ 255 := fun i => by
    by_cases hi : i < l.length
    · have := hw l[i] (List.getElem_mem hi)
      simp [Lit.wf, IntKind.min, IntKind.max, IntKind.signed, IntKind.bits] at this
      simpa [List.getD, hi] using this
    · simp [List.getD, hi]
  have Hby := Lib.hid hby
  clear hw hby
  by_cases hb : 2000 < l.length
  · go_enter Try.func30, Try.ntmps30
    go_wp2
    go_ret
    refine ⟨rfl, ⟨a, l.take 2000, cap, 0, ?_, Nat.le_refl _, by rw [List.length_take]; omega, ?_, ?_⟩, (Below.refl _ _).alloc (Nat.le_refl _) _, by simp⟩
    · rw [heap_alloc_new]
      rw [show (l.take 2000).length = 2000 by simp; omega]
      rfl
    · intro i hi
      have hi2 : i < 2000 := by simp at hi; omega
      obtain ⟨b, off, ha, hb', hc'⟩ := hr i (by omega)
      refine ⟨b, off, ha, hb', ?_⟩
      rw [World.cell?_of_block (w := w) (Below.heap_alloc w _ _ hb'), hc']
      simp [List.getD, hi2]
    · intro i
      by_cases hi2 : i < 2000
      · have := Hby.out i
        simpa [List.getD, List.getElem?_take, hi2] using this
      · simp [List.getD, List.getElem?_take, hi2]
  · go_enter Try.func30, Try.ntmps30
    go_wp2
    go_ret
    refine ⟨rfl, ⟨a, l, cap, 0, ?_, Nat.le_refl _, by omega, ?_, Hby.out⟩, (Below.refl _ _).alloc (Nat.le_refl _) _, by simp⟩
    · exact heap_alloc_new w _
    · intro i hi
      obtain ⟨b, off, ha, hb', hc'⟩ := hr i (by omega)
      refine ⟨b, off, ha, hb', ?_⟩
      rw [World.cell?_of_block (w := w) (Below.heap_alloc w _ _ hb'), hc']

/-- What a pick leaves: a number from 0 to n - 1; the reader has read one more; nothing else has changed. -/
def Picked (n : Int) (r K : Nat) (w : World) (e : Ending) (w' : World) : Prop :=
  ∃ k : Int, e = .returned (.int .i64 k) ∧ 0 ≤ k ∧ k < n ∧ Reader w' r (K + 1) ∧ w.grownBy w' (some r) ∧ w'.heap.size = w.heap.size

theorem Reader.next {w : World} {r K : Nat} {a : Option Addr} {l : List Int} {cap : Nat} {p : Nat} (n : Nat)
    (hh : w.heap[r]? = some (.cells #[.slice a l.length cap, .int .i64 p] 55 (0, 0))) (hp : p ≤ K) (hl : l.length ≤ 2000)
    (hc : ∀ i, i < l.length → ∃ b off, a = some ⟨b, off, none⟩ ∧ b < r ∧ w.cell? ⟨b, off + i, none⟩ = some (.int .u8 (l.getD i 0))) (hb : ∀ i, 0 ≤ l.getD i 0 ∧ l.getD i 0 ≤ 255) :
    Reader ((w.setCell ⟨r, 1, none⟩ (.int .i64 ((p : Int) + 1))).drewN n) r (K + 1) ∧ w.grownBy ((w.setCell ⟨r, 1, none⟩ (.int .i64 ((p : Int) + 1))).drewN n) (some r) ∧
      ((w.setCell ⟨r, 1, none⟩ (.int .i64 ((p : Int) + 1))).drewN n).heap.size = w.heap.size := by
  refine ⟨⟨a, l, cap, p + 1, ?_, by omega, hl, fun i hi => ?_, hb⟩, ⟨rfl, rfl, rfl, by simp [World.setCell], fun k hk hne => ?_⟩, by simp [World.setCell]⟩
  · show (w.setCell ⟨r, 1, none⟩ (.int .i64 ((p : Int) + 1))).heap[r]? = _
    rw [heap_setCell_same w r 1 _ _ _ hh]
    simp
  · obtain ⟨b, off, ha, hlt, hcell⟩ := hc i hi
    refine ⟨b, off, ha, hlt, ?_⟩
    show (w.setCell ⟨r, 1, none⟩ (.int .i64 ((p : Int) + 1))).cell? ⟨b, off + i, none⟩ = _
    rw [World.cell?_of_block (w := w) (Below.heap_setCell _ _ _ _ (by simp; omega)), hcell]
  · show (w.setCell ⟨r, 1, none⟩ (.int .i64 ((p : Int) + 1))).heap[k]? = _
    exact Below.heap_setCell _ _ _ _ (by simp; intro h; exact hne (by rw [h]))

theorem pick_any (r K : Nat) (n : Int) (w : World) (hR : Reader w r K) (hK : K ≤ 1000000) (hn0 : 1 ≤ n) (hn1 : n ≤ 1000000) :
    Calls Try.prog 60 #[.pointer (some ⟨r, 0, none⟩), .int .i64 n] w (Picked n r K w) := by
  obtain ⟨a, l, cap, p, hh, hp, hl, hc, hby⟩ := hR
  have hc0 : w.cell? ⟨r, 0, none⟩ = some (.slice a l.length cap) := by rw [cell_of_row w r 0 _ _ _ hh]; rfl
  have hc1 : w.cell? ⟨r, 1, none⟩ = some (.int .i64 p) := by rw [cell_of_row w r 1 _ _ _ hh]; rfl
  have hf : ∀ j, w.frozen? ⟨r, j, none⟩ = false := fun j => frozen_of_row w r j _ _ hh
  have hf1 := hf 1
  clear hf
  have hnext := fun n => Reader.next n hh hp hl hc hby
  have Hnext := Lib.hid hnext
  have Hby := Lib.hid hby
  clear hh hnext hby
  by_cases h0 : l.length = 0
  · have hz : ((l.length : Int) == 0) = true := by simp [h0]
    clear h0
    go_enter Try.func60, Try.ntmps60
    go_wp2
    go_ret
    exact ⟨0, rfl, by omega, by omega, Hnext.out 0⟩
  · have hz : ((l.length : Int) == 0) = false := by
      rw [beq_eq_false_iff_ne]
      omega
    have hpos : 1 ≤ l.length := by omega
    clear h0
    by_cases hlt : p < l.length
    · obtain ⟨b, off, ha, hbr, hcell⟩ := hc p hlt
      subst ha
      have hv := Hby.out p
      have e1 : l.getD p 0 = l[p] := by simp [List.getD, hlt]
      rw [e1] at hv
      clear e1
      go_enter Try.func60, Try.ntmps60
      go_wp2
      go_ret
      have hm := Int.emod_nonneg l[p] (show n ≠ 0 by omega)
      have hm2 := Int.emod_lt_of_pos l[p] (show 0 < n by omega)
      exact ⟨_, rfl, hm, hm2, Hnext.out 0⟩
    · obtain ⟨b, off, ha, hbr, -⟩ := hc 0 (by omega)
      subst ha
      have hcs : ∀ i, i < l.length → w.cell? ⟨b, off + i, none⟩ = some (.int .u8 (l.getD i 0)) := fun i hi => by
        obtain ⟨b', off', he, -, h⟩ := hc i hi
        simp at he
        obtain ⟨rfl, rfl⟩ := he
        exact h
      clear hc
      have hby := Hby.out
      have hge : l.length ≤ p := by omega
      clear hz Hby hlt
      generalize l.length = L at *
      have hq1 : p % L < L := Nat.mod_lt _ (by omega)
      have hq2 : (p * 7 + 3) % L < L := Nat.mod_lt _ (by omega)
      have hx1 := hcs _ hq1
      have hx2 := hcs _ hq2
      have hv1 := hby (p % L)
      have hv2 := hby ((p * 7 + 3) % L)
      generalize e1 : l.getD (p % L) 0 = y1 at hx1 hv1
      generalize e2 : l.getD ((p * 7 + 3) % L) 0 = y2 at hx2 hv2
      clear hcs e1 e2 hby
      have hdv : 0 ≤ (p : Int) / (L : Int) ∧ (p : Int) / (L : Int) ≤ p := by
        have e : (p : Int) / (L : Int) = ((p / L : Nat) : Int) := by simp
        rw [e]
        have h1 := Nat.div_le_self p L
        exact ⟨Int.natCast_nonneg _, by exact_mod_cast h1⟩
      have hz : ((L : Int) == 0) = false := by
        rw [beq_eq_false_iff_ne]
        omega
      have hq3 : 0 ≤ ((p : Int) * 7 + 3) % (L : Int) ∧ ((p : Int) * 7 + 3) % (L : Int) < (L : Int) :=
        ⟨Int.emod_nonneg _ (by omega), Int.emod_lt_of_pos _ (by omega)⟩
      go_enter Try.func60, Try.ntmps60
      go_wp2
      go_quiet (fail)
      go_wp2
      go_ret
      have hx := xor_nonneg (x := y1 * 131 + y2 * 1117 + ↑p * 29 + ↑p / ↑L * 53) (y := (y1 * 131 + y2 * 1117 + ↑p * 29 + ↑p / ↑L * 53) / 64) (by omega) (by omega) (by omega) (by omega)
      have hm := tmod_range hx hn0
      exact ⟨_, rfl, hm.1, hm.2, Hnext.out _⟩

end Go.Proofs.Yteedbejlbjfkgaa
