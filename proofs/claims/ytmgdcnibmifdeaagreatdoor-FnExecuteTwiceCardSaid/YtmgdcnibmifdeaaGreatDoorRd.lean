/- How a slice of ints is read, and what the call's own memory keeps: predicates on worlds, and plain laws on them. -/
import Derived.Test.YtmgdcnibmifdeaaGreatDoorFr
import Derived.WalkLawsBesides
import Derived.Lib.Hide
set_option linter.unusedVariables false
namespace Go.Proofs.YtmgdcnibmifdeaaGreatDoor
open Go.RowKit

theorem ret_int {k : IntKind} {a b : Int} (h : a = b) : Ending.returned (.int k a) = .returned (.int k b) := by rw [h]
theorem ret_bool {a b : Bool} (h : a = b) : Ending.returned (.bool a) = .returned (.bool b) := by rw [h]

theorem ret_int2 {k : IntKind} {a b : Int} {x : Value} (h : a = b) : Ending.returned (.tuple #[.int k a, x]) = .returned (.tuple #[.int k b, x]) := by rw [h]
theorem ret_nat {k : IntKind} {a b : Nat} (h : a = b) : Ending.returned (.int k (a : Int)) = .returned (.int k (b : Int)) := by rw [h]
theorem ret_nat2 {k : IntKind} {a b : Nat} {x : Value} (h : a = b) : Ending.returned (.tuple #[.int k (a : Int), x]) = .returned (.tuple #[.int k (b : Int), x]) := by rw [h]

/-- A slice of kind k with the address a reads as the list l: each element has its cell. -/
def Reads (k : IntKind) (w : World) (a : Option Addr) (l : List Int) : Prop :=
  ∀ i, i < l.length → ∃ b off, a = some ⟨b, off, none⟩ ∧ b < w.heap.size ∧ w.cell? ⟨b, off + i, none⟩ = some (.int k (l.getD i 0))

theorem Reads.nil {k : IntKind} {w : World} {a : Option Addr} : Reads k w a [] := fun i h => by simp at h

theorem cell_lt {w : World} {a : Addr} {v : Value} (h : w.cell? a = some v) : a.block < w.heap.size := World.block_lt_of_cell? w a h

theorem IsRow.reads {k : IntKind} {w : World} {a : Option Addr} {len cap : Nat} {zs : List Int} (h : IsRow k w a len cap zs) :
    Reads k w a (zs.take len) ∧ (zs.take len).length = len ∧ len ≤ cap ∧ cap ≤ 9223372036854775807 ∧ ∀ n ∈ zs.take len, (Lit.int k n).wf = true := by
  rcases h with ⟨rfl, rfl, rfl, rfl⟩ | ⟨x, rfl, hl, hm, hz, hc, hw⟩
  · exact ⟨Reads.nil, rfl, by omega, by omega, by simp⟩
  · have hlen : (zs.take len).length = len := by simp [hz]; omega
    refine ⟨fun i hi => ?_, hlen, hl, by simpa [maxLen] using hm, fun n hn => hw n (List.mem_of_mem_take hn)⟩
    rw [hlen] at hi
    obtain ⟨b, off, spot⟩ := x
    have h0 := hc i (by omega)
    have hs : spot = none := by simpa [Addr.add] using World.cell?_spot (hc 0 (by omega))
    subst hs
    have e : (zs.take len).getD i 0 = zs.getD i 0 := by simp [List.getD, hi]
    rw [e]
    rw [Addr.add_lit] at h0
    exact ⟨b, off, rfl, cell_lt h0, h0⟩

theorem Reads.kept {k : IntKind} {w w' : World} {a : Option Addr} {l : List Int} (h : Reads k w a l) (hb : Below w.heap.size w w') : Reads k w' a l := by
  intro i hi
  obtain ⟨b, off, ha, hlt, hc⟩ := h i hi
  exact ⟨b, off, ha, Nat.lt_of_lt_of_le hlt hb.size, by rw [hb.cell (p := ⟨b, off + i, none⟩) hlt]; exact hc⟩

/-- Block B or a later one: the slice value v is the call's own and holds the ints l. -/
def Owns (B : Nat) (w : World) (v : Value) (l : List Int) : Prop := w.ownsRow B 3 1 v l.length (l.map (Value.int .i64))

theorem Owns.nil (B : Nat) (w : World) : Owns B w (.slice none 0 0) [] := World.ownsRow_nil _ _ _ _

theorem Owns.shape {B : Nat} {w : World} {v : Value} {l : List Int} (h : Owns B w v l) :
    ∃ a cap, v = .slice a l.length cap ∧ Reads .i64 w a l ∧ l.length ≤ cap ∧ cap ≤ 9223372036854775807 := by
  rcases h.2 with ⟨rfl, hn⟩ | ⟨g, cap, cur, rfl, hb, hg, hnc, hcm, hcs, htake⟩
  · have : l = [] := List.eq_nil_of_length_eq_zero hn
    subst this
    exact ⟨none, 0, rfl, Reads.nil, by simp, by omega⟩
  · refine ⟨_, cap, rfl, fun i hi => ⟨g, 0, rfl, (Array.getElem?_eq_some_iff.1 hg).1, ?_⟩, hnc, by simpa [maxLen] using hcm⟩
    rw [Nat.zero_add, World.ownsRow.cellAt h i (by omega)]
    simp [List.getD, hi]

/-- The same, with the block of a list that is not empty. -/
theorem Owns.head {B : Nat} {w : World} {v : Value} {l : List Int} (h : Owns B w v l) (hl : 0 < l.length) :
    ∃ g cap, v = .slice (some ⟨g, 0, none⟩) l.length cap ∧ B ≤ g ∧ g < w.heap.size ∧ l.length ≤ cap ∧ cap ≤ 9223372036854775807 ∧
      (∀ i, i < l.length → w.cell? ⟨g, i, none⟩ = some (.int .i64 (l.getD i 0))) ∧ ∀ i, w.frozen? ⟨g, i, none⟩ = false := by
  rcases h.2 with ⟨rfl, hn⟩ | ⟨g, cap, cur, rfl, hb, hg, hnc, hcm, hcs, htake⟩
  · omega
  · refine ⟨g, cap, rfl, hb, (Array.getElem?_eq_some_iff.1 hg).1, hnc, by simpa [maxLen] using hcm, fun i hi => ?_, fun i => World.ownsRow.frozenAt h i⟩
    rw [World.ownsRow.cellAt h i (by omega)]
    simp [List.getD, hi]

/-- A list of places as Go's ints. -/
def ints (l : List Nat) : List Int := l.map Int.ofNat
theorem ints_length (l : List Nat) : (ints l).length = l.length := by simp [ints]
theorem ints_append (l m : List Nat) : ints (l ++ m) = ints l ++ ints m := by simp [ints]
theorem ints_get (l : List Nat) (k : Nat) : (ints l).getD k 0 = ((l.getD k 0 : Nat) : Int) := by
  simp only [ints, List.getD, List.getElem?_map]
  cases l[k]? <;> simp

/-- A slice with the address a reads as a list of numbers that are not negative. -/
def ReadsN (w : World) (a : Option Addr) (l : List Nat) : Prop :=
  ∀ i, i < l.length → ∃ b off, a = some ⟨b, off, none⟩ ∧ b < w.heap.size ∧ w.cell? ⟨b, off + i, none⟩ = some (.int .i64 ((l.getD i 0 : Nat) : Int))

theorem ReadsN.kept {w w' : World} {a : Option Addr} {l : List Nat} (h : ReadsN w a l) (hb : Below w.heap.size w w') : ReadsN w' a l := by
  intro i hi
  obtain ⟨b, off, ha, hlt, hc⟩ := h i hi
  exact ⟨b, off, ha, Nat.lt_of_lt_of_le hlt hb.size, by rw [hb.cell (p := ⟨b, off + i, none⟩) hlt]; exact hc⟩

theorem Owns.shapeN {B : Nat} {w : World} {v : Value} {l : List Nat} (h : Owns B w v (ints l)) :
    ∃ a cap, v = .slice a l.length cap ∧ ReadsN w a l ∧ l.length ≤ cap ∧ cap ≤ 9223372036854775807 := by
  obtain ⟨a, cap, hv, hr, hl, hc⟩ := h.shape
  rw [ints_length] at hv hl
  refine ⟨a, cap, hv, fun i hi => ?_, hl, hc⟩
  obtain ⟨b, off, ha, hlt, hcell⟩ := hr i (by rw [ints_length]; exact hi)
  exact ⟨b, off, ha, hlt, by rw [ints_get] at hcell; exact hcell⟩

theorem Owns.kept {B : Nat} {w w' : World} {v : Value} {l : List Int} (h : Owns B w v l) (hb : Below w.heap.size w w') : Owns B w' v l := by
  refine ⟨h.1, ?_⟩
  rcases h.2 with hn | ⟨g, cap, cur, rfl, hb', hgg, rest⟩
  · exact .inl hn
  · exact .inr ⟨g, cap, cur, rfl, hb', by rw [hb.block g (Array.getElem?_eq_some_iff.1 hgg).1]; exact hgg, rest⟩

theorem Owns.mono {B B' : Nat} {w : World} {v : Value} {l : List Int} (h : Owns B w v l) (hB : B' ≤ B) : Owns B' w v l := by
  refine ⟨h.1, ?_⟩
  rcases h.2 with hn | ⟨g, cap, cur, rfl, hb', rest⟩
  · exact .inl hn
  · exact .inr ⟨g, cap, cur, rfl, by omega, rest⟩

theorem infoInt : (Tryz.prog.info? 3).map (fun i => (i.zero, i.size, i.bytes)) = some (some (.int .i64 0), 1, 8) := by kernel_rfl

theorem Owns.alloc {B : Nat} {w : World} {v : Value} {l : List Int} (h : Owns B w v l) (o : Obj) : Owns B (w.alloc o) v l := World.ownsRow.alloc h o
theorem Owns.drewN {B : Nat} {w : World} {v : Value} {l : List Int} (h : Owns B w v l) (n : Nat) : Owns B (w.drewN n) v l := h

theorem Owns.lt {B : Nat} {w : World} {v : Value} {l : List Int} (h : Owns B w v l) : ∀ k, v.ownBlock = some k → B ≤ k ∧ k < w.heap.size := World.ownsRow.lt h

/-- '[]int{}': an empty list of the call's own. -/
theorem Owns.empty {B : Nat} (w : World) (hB : B ≤ w.heap.size) : Owns B (w.alloc (.cells #[] 3)) (.slice (some ⟨w.heap.size, 0, none⟩) 0 0) [] :=
  World.ownsRow_made w #[] 0 hB (by unfold maxLen; omega) (by simp)

theorem cell_new (w : World) (v : Value) (t : TypeId) : (w.alloc (.cells #[v] t)).cell? ⟨w.heap.size, 0, none⟩ = some v := by
  rw [cell_of_row _ w.heap.size 0 _ _ _ (heap_alloc_new w _)]
  rfl

/-- 'out = append(out, y)', out a list of ints of the call's own. -/
theorem wpList_app {w : World} {ops : Array Oper} {rest : List Oper} {o : Oper} {a : Act} {Q : Exit → Act → World → Prop} (hgd : o.guard = none) (s x : Operand)
    (ho : o.op = .call { callee := .builtin .append, args := #[s, x], argTypes := #[63, 63] })
    (B : Nat) {v : Value} (l : List Int) (hs : a.eval s = v) (hO : Owns B w v l) {y : Int} (hx : a.eval x = .slice (some ⟨w.heap.size, 0, none⟩) 1 1)
    (hlen : l.length ≤ 1000000000000) (hB : B ≤ w.heap.size)
    (h : ∀ v' w', Owns B w' v' (l ++ [y]) → Below B w w' → w.grownBy w' v.ownBlock → wpList Tryz.prog ops Q rest (a.put o.dst v') w') :
    wpList Tryz.prog ops Q (o :: rest) a (w.alloc (.cells #[.int .i64 y] 3)) := by
  obtain ⟨i0, hi, hz0, hz1, hz2⟩ := info_parts infoInt
  refine wpList_append_own _ hgd s x 63 ho B 3 i0 (.int .i64 0) 1 8 Tryz.underlying63 hi hz0 hz1 hz2 rfl (by decide) v l.length (l.map (Value.int .i64)) hs (World.ownsRow.alloc hO _)
    ⟨w.heap.size, 0, none⟩ 1 1 [.int .i64 y] hx rfl ?_ ?_ (by unfold maxLen; omega) (by omega) (by simp; omega) ?_
  · intro j u hj
    match j, hj with
    | 0, hj => simp at hj; subst hj; simp [Addr.add]
  · intro u hu; simp at hu; subst hu; rfl
  · intro v' w' h1 h2 _
    have hg : w.grownBy w' v.ownBlock := by
      have h0 := World.grownBy_alloc w (.cells #[.int .i64 y] 3) v.ownBlock
      exact ⟨h2.os.trans h0.os, h2.tape.trans h0.tape, h2.output.trans h0.output, Nat.le_trans h0.size h2.size, fun k hk hne =>
        (h2.block k (Nat.lt_of_lt_of_le hk h0.size) hne).trans (h0.block k hk hne)⟩
    refine h v' w' ?_ ((Below.refl _ _).grown hg hB (fun k hk => (hO.lt k hk).1)) hg
    show w'.ownsRow B 3 1 v' (l ++ [y]).length ((l ++ [y]).map (Value.int .i64))
    rw [List.length_append, List.map_append]
    exact h1

theorem Owns.reads {B : Nat} {w : World} {a : Option Addr} {n cap : Nat} {l : List Int} (h : Owns B w (.slice a n cap) l) : Reads .i64 w a l ∧ n = l.length := by
  obtain ⟨a', cap', hv, hr, -, -⟩ := h.shape
  simp only [Value.slice.injEq] at hv
  obtain ⟨rfl, rfl, rfl⟩ := hv
  exact ⟨hr, rfl⟩

/-- A store into an owned list. -/
theorem Owns.store {B g n cap : Nat} {w : World} {l : List Int} (h : Owns B w (.slice (some ⟨g, 0, none⟩) n cap) l) (j : Nat) (y : Int) :
    Owns B (w.setCell ⟨g, j, none⟩ (.int .i64 y)) (.slice (some ⟨g, 0, none⟩) n cap) (l.set j y) ∧ w.grownBy (w.setCell ⟨g, j, none⟩ (.int .i64 y)) (some g) := by
  have hn := h.reads.2
  subst hn
  have hs := World.ownsRow.stored h j (.int .i64 y)
  refine ⟨?_, hs.2⟩
  show World.ownsRow _ B 3 1 _ (l.set j y).length ((l.set j y).map (Value.int .i64))
  rw [List.length_set, List.map_set]
  exact hs.1

/-- A list that is written out. -/
theorem Owns.lit {B : Nat} (w : World) (l : List Int) (hB : B ≤ w.heap.size) (hl : l.length ≤ 1000000) :
    Owns B (w.alloc (.cells (l.map (Value.int .i64)).toArray 3)) (.slice (some ⟨w.heap.size, 0, none⟩) l.length l.length) l := by
  have h := World.ownsRow_lit (base := B) (e := 3) (size := 1) w (l.map (Value.int .i64)).toArray l.length hB (by unfold maxLen; omega) (by simp)
  exact h

end Go.Proofs.YtmgdcnibmifdeaaGreatDoor
