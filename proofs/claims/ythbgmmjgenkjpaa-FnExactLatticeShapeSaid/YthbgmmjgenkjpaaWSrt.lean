/- Contract of the program's own sort: the library's sort, laid over the program, on a list of the call's own. -/
import Derived.Test.YthbgmmjgenkjpaaRd
import Derived.Test.YthbgmmjgenkjpaaSrt
import Derived.Test.YthbgmmjgenkjpaaSkLay
import Derived.Shelf.Sort.Plain
import Derived.Sort.OwnSortedInts
set_option linter.unusedVariables false
namespace Go.Proofs.Ythbgmmjgenkjpaa
open Go.RowKit Go.Sort Res

theorem sorted_any {B g c : Nat} {w : World} {l : List Int} (hO : Owns B w (.slice (some ⟨g, 0, none⟩) l.length c) l) (hl : l.length ≤ 1000000) :
    Calls Try.prog 62 #[.slice (some ⟨g, 0, none⟩) l.length c] w fun e w' => e = .returned (.slice (some ⟨g, 0, none⟩) l.length c) ∧ Owns B w' (.slice (some ⟨g, 0, none⟩) l.length c) (srt l) ∧ w.grownBy w' (some g) := by
  obtain ⟨h1, h2⟩ := hO
  rcases h2 with ⟨h2, -⟩ | ⟨g', cap, cur, hv, hb, hh, hnc, hcm, hcs, ht⟩
  · cases h2
  · simp only [Value.slice.injEq, Option.some.injEq, Addr.mk.injEq, and_true] at hv
    obtain ⟨rfl, -, rfl⟩ := hv
    rw [Nat.mul_one] at ht
    have hblk := (Array.getElem?_eq_some_iff.1 hh).1
    have C : Calls Try.prog 81 #[.slice (some ⟨g, 0, none⟩) l.length c] w fun e w' => e = .returned (.tuple #[]) ∧ ∃ n os, w' = grow (putRow (Value.int .i64) (Sort.ahead w n) g 0 (srt l).toArray) os :=
      Any.slices_Sort_int lays189 g 0 c l w (holds_of_blockI hh ht) hblk (by omega)
    have HC := Lib.hid C
    have HF : Hid (∀ n os, Owns B (grow (putRow (Value.int .i64) (Sort.ahead w n) g 0 (srt l).toArray) os) (.slice (some ⟨g, 0, none⟩) l.length c) (srt l)) := Lib.hid (fun n os => by
      have := ownsRow_sortedI (n := n) (os := os) (ts := srt l) (ss := l) (srt_length l) hb hh hnc hcm (by rw [hcs])
      unfold Owns
      rw [srt_length]
      exact this)
    clear C
    go_enter Try.func62, Try.ntmps62
    go_wp2_with fail
    refine HC.out.mono ?_
    rintro e w' ⟨rfl, n, os, rfl⟩
    go_wp2_with fail
    go_ret
    exact ⟨rfl, HF.out n os, grownBy_sortedI _⟩

end Go.Proofs.Ythbgmmjgenkjpaa
