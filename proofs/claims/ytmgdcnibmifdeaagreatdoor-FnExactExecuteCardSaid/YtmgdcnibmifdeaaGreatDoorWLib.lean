/- The library's contracts at this program: Split, Cut, Trim, Atoi, Itoa, Join, Builder; what its tables and variables hold. -/
import Derived.Test.YtmgdcnibmifdeaaGreatDoorWLay
import Derived.Test.YtmgdcnibmifdeaaGreatDoorRd
import Derived.Shelf.Strings.Split
import Derived.Shelf.Strings.Cut
import Derived.Shelf.Strings.OnBuilder
import Derived.Shelf.Strings.BuilderK
import Derived.Shelf.Strings.SlTrimAscii
import Derived.Shelf.Strconv.Atoi
import Derived.Shelf.Strconv.Itoa3
import Derived.Lib.LaidTab
import Derived.Lib.AtoiErrMem
import Derived.WalkSmall
set_option linter.unusedVariables false
namespace Go.Proofs.YtmgdcnibmifdeaaGreatDoor
open Go.RowKit Go.Shelf Go.Sort

theorem libX : Go.Proofs.Builder.Extra Tryz.prog libRen := {
  sizeBuilder := by kernel_rfl,
  liesBuilder := by kernel_rfl,
  t5 := Tryz.underlying5,
  a5 := Tryz.isAgg5,
  z5 := Tryz.sizeOf5,
  v5 := Tryz.zeroValue5,
  infoByte := by kernel_rfl,
  cellsByte := by kernel_rfl,
  sizeByte := by kernel_rfl,
  neB5 := by decide }

/-- The name of the library's table of powers of ten, as the row lists it. -/
def powName : String := (Rows.fnExactExecuteRow.laid.map (fun x => x.1)).getD 2 ""
/-- What the library's variables hold: a number, and the powers of ten. -/
structure Gl (w : World) : Prop where
  m : ∃ m, w.cell? ⟨0, 0, none⟩ = some (.int .i64 m)
  t : Go.Lib.TabIs Tryz.prog w powName .u64 Go.Lib.pow10Tab
theorem pow_global : ∃ g, Tryz.prog.globalNamed powName = some g := ⟨1, by kernel_rfl⟩
theorem Gl.kept {w w' : World} (h : Gl w) (hb : Below w.heap.size w w') : Gl w' := by
  obtain ⟨m, hm⟩ := h.m
  have hlt : 0 < w.heap.size := World.block_lt_of_cell? w ⟨0, 0, none⟩ hm
  refine ⟨⟨m, by rw [hb.cell (p := ⟨0, 0, none⟩) hlt]; exact hm⟩, ?_⟩
  obtain ⟨g, hg⟩ := pow_global
  have ht : w.var? Tryz.prog powName = some _ := h.t
  have hlt2 : g < w.heap.size := by
    have := World.var?_cell hg ht 0
    exact World.block_lt_of_cell? w ⟨g, 0, none⟩ this
  exact Go.var?_below hb hg hlt2 ht

theorem below_grow (w : World) (k : Nat) (os : Array Obj) : Below w.heap.size w (grow (w.drewN k) os) := by
  refine ⟨rfl, rfl, rfl, ?_, fun j hj => ?_⟩
  · show w.heap.size ≤ (w.heap ++ os).size
    simp
  · show (w.heap ++ os)[j]? = w.heap[j]?
    rw [Array.getElem?_append_left hj]
/-- The pieces between a byte. -/
def piecesB (s sep : ByteArray) : List ByteArray := Go.Lib.splitB sep 0 (Go.Lib.countB s sep) s
theorem Split_any (s sep : ByteArray) (w : World) (hs : s.size ≤ 1000000) (h1 : 1 ≤ sep.size) (hG : Gl w) :
    Calls Tryz.prog 31 #[.string s, .string sep] w fun e w' => e = .returned (.slice (some ⟨w.heap.size, 0, none⟩) (piecesB s sep).length (piecesB s sep).length) ∧ w' = w.alloc (.cells ((piecesB s sep).map Value.string).toArray 9) := by
  obtain ⟨m, hm⟩ := hG.m
  have h := Any.strings_Split lays146 (by kernel_rfl) s sep m w (by omega) hm h1
  have hl : (piecesB s sep).length = Go.Lib.countB s sep + 1 := Go.Lib.splitB_all sep h1 0 _ s rfl
  rw [hl]
  exact h
theorem Cut_any (s sep : ByteArray) (w : World) (hs : s.size ≤ 1000000) (hG : Gl w) :
    Calls Tryz.prog 32 #[.string s, .string sep] w fun e w' => e = .returned (.tuple #[.string ⟨(Go.Lib.cut s.data.toList sep.data.toList).1.toArray⟩, .string ⟨(Go.Lib.cut s.data.toList sep.data.toList).2.1.toArray⟩, .bool (Go.Lib.cut s.data.toList sep.data.toList).2.2]) ∧ ∃ n, w' = w.drewN n := by
  obtain ⟨m, hm⟩ := hG.m
  exact Any.strings_Cut lays145 s sep m w (by omega) hm
theorem Trim_any (s cs : ByteArray) (w : World) (hs : s.size ≤ 1000000) (hcs : cs.size ≤ 100) (hascii : ∀ (j : Nat) b, cs.data.toList[j]? = some b → b.toNat < 128) :
    Calls Tryz.prog 85 #[.string s, .string cs] w fun e w' => e = .returned (.string ⟨(Go.Lib.trimS s.data.toList cs.data.toList).toArray⟩) ∧ Below w.heap.size w w' :=
  Any.strings_Trim_laid lays160 (by kernel_rfl) s cs w (by omega) (by omega) hascii
theorem Atoi_any (s : ByteArray) (n : Int) (hl : s.size ≤ 18) (h : Go.Lib.atoi s.data.toList = some n) (w : World) :
    Calls Tryz.prog 86 #[.string s] w fun e w' => e = .returned (.tuple #[.int .i64 n, .nilIface]) ∧ Below w.heap.size w w' := by
  refine (Any.strconv_Atoi lays172 s n hl h w).mono ?_
  rintro e w' ⟨he, t, rfl⟩
  exact ⟨he, Go.Lib.bytesWorld_below w _ t⟩
theorem Itoa_any (n : Nat) (hn : n ≤ 9223372036854775807) (w : World) (hG : Gl w) :
    Calls Tryz.prog 36 #[.int .i64 (n : Int)] w fun e w' => e = .returned (.string ⟨(Go.Lib.decDigits n).toArray⟩) ∧ Below w.heap.size w w' := by
  refine (Any.strconv_Itoa laysM171 (n : Int) (by omega) (by omega) w hG.t).mono ?_
  rintro e w' ⟨rfl, k, os, rfl⟩
  refine ⟨?_, ?_⟩
  · have : Go.Lib.itoa (n : Int) = Go.Lib.decDigits n := by
      unfold Go.Lib.itoa
      rw [if_neg (by omega), Int.toNat_natCast]
    rw [this]
  · exact below_grow _ _ _
theorem Join_any (bk o c : Nat) (xs : List ByteArray) (sep : ByteArray) (w : World) (hcells : ∀ (j : Nat) x, xs[j]? = some x → w.cell? ⟨bk, o + j, none⟩ = some (.string x)) (hbk : bk < w.heap.size)
    (hN : xs.length ≤ 1000000) (hcap : xs.length ≤ c) (hlen : (Go.Lib.join (xs.map (·.data.toList)) sep.data.toList).length ≤ 1000000000) :
    Calls Tryz.prog 46 #[.slice (some ⟨bk, o, none⟩) xs.length c, .string sep] w fun e w' => e = .returned (.string ⟨(Go.Lib.join (xs.map (·.data.toList)) sep.data.toList).toArray⟩) ∧ Below w.heap.size w w' :=
  Any.strings_Join lays156 libX bk o c xs sep w hcells hbk (by omega) hcap (by omega)
/-- A builder of the call's own in block b. -/
def Bld (b : Nat) (l : List UInt8) (w : World) : Prop := Go.Lib.IsBuilderF 43 5 b b (Go.Lib.byteCells l) w
def OKept (b : Nat) (w w' : World) : Prop := Go.Lib.OthersKept 5 (some b) w w'
theorem byteCells_append (l m : List UInt8) : Go.Lib.byteCells (l ++ m) = Go.Lib.byteCells l ++ Go.Lib.byteCells m := by simp [Go.Lib.byteCells]
theorem Bld.lt {b : Nat} {l : List UInt8} {w : World} (h : Bld b l w) : b < w.heap.size := by
  rcases h with h | h
  · exact Go.Lib.BuilderAtF.lt h
  · exact Go.Lib.BuilderAtF.lt h
theorem WriteString_any (b : Nat) (l m : List UInt8) (w : World) (h : Bld b l w) (hlen : l.length + m.length ≤ 1000000000) :
    Calls Tryz.prog 35 #[.pointer (some ⟨b, 0, none⟩), .string ⟨m.toArray⟩] w fun e w' => e = .returned (.tuple #[.int .i64 (m.length : Int), .nilIface]) ∧ Bld b (l ++ m) w' ∧ Below b w w' ∧ OKept b w w' := by
  have hl : (Go.Lib.byteCells l).length = l.length := Go.Lib.byteCells_length l
  have hsz : (ByteArray.mk m.toArray).size = m.length := by simp [ByteArray.size]
  refine (Any.Builder_WriteString_k lays166 libX b b (Go.Lib.byteCells l) ⟨m.toArray⟩ w h (by rw [hl, hsz]; omega) (Nat.le_of_lt h.lt)).mono ?_
  rintro e w' ⟨he, h1, h2, h3⟩
  rw [hsz] at he
  refine ⟨he, ?_, h2, h3⟩
  have e1 : Go.Lib.byteCells (l ++ m) = Go.Lib.byteCells l ++ Go.Lib.strCells ⟨m.toArray⟩ := by
    rw [byteCells_append]
    simp [Go.Lib.byteCells, Go.Lib.strCells]
  unfold Bld
  rw [e1]
  exact .inr h1
theorem String_any (b : Nat) (l : List UInt8) (w : World) (h : Bld b l w) :
    Calls Tryz.prog 37 #[.pointer (some ⟨b, 0, none⟩)] w fun e w' => e = .returned (.string ⟨l.toArray⟩) ∧ Below b w w' := by
  refine (Any.Builder_String_any_k lays169 libX b b l w h (Nat.le_of_lt h.lt)).mono ?_
  rintro e w' ⟨he, h1, h2, h3⟩
  exact ⟨he, h2⟩

end Go.Proofs.YtmgdcnibmifdeaaGreatDoor
