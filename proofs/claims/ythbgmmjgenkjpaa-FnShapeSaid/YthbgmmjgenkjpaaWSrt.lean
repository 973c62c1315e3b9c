/- The library's sort as it lies in this program; contract of the program's own sort on a list of the call's own. -/
import Derived.Test.YthbgmmjgenkjpaaFr
import Derived.Test.YthbgmmjgenkjpaaRd
import Derived.Test.YthbgmmjgenkjpaaSrt
import Derived.Shelf.Lays
import Derived.Shelf.Sort.Plain
import Derived.Sort.OwnSortedInts
set_option linter.unusedVariables false
namespace Go.Proofs.Ythbgmmjgenkjpaa
open Go.RowKit

def lays189_ren : Go.Shelf.Ren := ⟨fun | 189 => 81 | 125 => 95 | 257 => 94 | 128 => 116 | 129 => 117 | 294 => 107 | 295 => 108 | 296 => 109 | 297 => 110 | 298 => 111 | 299 => 112 | 216 => 113 | 300 => 114 | 301 => 115 | 328 => 121 | 329 => 122 | 330 => 123 | 331 => 124 | 332 => 125 | 215 => 126 | 343 => 127 | n => n, fun | 28 => 25 | 3 => 3 | 46 => 58 | 0 => 0 | 51 => 69 | 53 => 71 | 4 => 4 | 183 => 75 | 182 => 74 | 131 => 29 | 5 => 5 | 9 => 9 | 218 => 83 | 222 => 87 | 228 => 89 | 229 => 37 | n => n, fun | n => n⟩
theorem lays189 : Go.Proofs.Lays.n189 Try.prog lays189_ren := {
  mixed := by kernel_rfl,
  f125 := Try.func95.trans (congrArg some (by kernel_rfl)),
  f128 := Try.func116.trans (congrArg some (by kernel_rfl)),
  f129 := Try.func117.trans (congrArg some (by kernel_rfl)),
  f189 := Try.func81.trans (congrArg some (by kernel_rfl)),
  f215 := Try.func126.trans (congrArg some (by kernel_rfl)),
  f216 := Try.func113.trans (congrArg some (by kernel_rfl)),
  f257 := Try.func94.trans (congrArg some (by kernel_rfl)),
  f294 := Try.func107.trans (congrArg some (by kernel_rfl)),
  f295 := Try.func108.trans (congrArg some (by kernel_rfl)),
  f296 := Try.func109.trans (congrArg some (by kernel_rfl)),
  f297 := Try.func110.trans (congrArg some (by kernel_rfl)),
  f298 := Try.func111.trans (congrArg some (by kernel_rfl)),
  f299 := Try.func112.trans (congrArg some (by kernel_rfl)),
  f300 := Try.func114.trans (congrArg some (by kernel_rfl)),
  f301 := Try.func115.trans (congrArg some (by kernel_rfl)),
  f328 := Try.func121.trans (congrArg some (by kernel_rfl)),
  f329 := Try.func122.trans (congrArg some (by kernel_rfl)),
  f330 := Try.func123.trans (congrArg some (by kernel_rfl)),
  f331 := Try.func124.trans (congrArg some (by kernel_rfl)),
  f332 := Try.func125.trans (congrArg some (by kernel_rfl)),
  f343 := Try.func127.trans (congrArg some (by kernel_rfl)),
  t0 := Try.underlying0,
  a0 := Try.isAgg0,
  z0 := Try.sizeOf0,
  v0 := Try.zeroValue0,
  t3 := Try.underlying3,
  a3 := Try.isAgg3,
  z3 := Try.sizeOf3,
  v3 := Try.zeroValue3,
  t4 := Try.underlying4,
  a4 := Try.isAgg4,
  z4 := Try.sizeOf4,
  v4 := Try.zeroValue4,
  t5 := Try.underlying5,
  a5 := Try.isAgg5,
  z5 := Try.sizeOf5,
  v5 := Try.zeroValue5,
  t9 := Try.underlying9,
  a9 := Try.isAgg9,
  z9 := Try.sizeOf9,
  v9 := Try.zeroValue9,
  t28 := Try.underlying25,
  a28 := Try.isAgg25,
  z28 := Try.sizeOf25,
  v28 := Try.zeroValue25,
  t46 := Try.underlying58,
  a46 := Try.isAgg58,
  z46 := Try.sizeOf58,
  v46 := Try.zeroValue58,
  t51 := Try.underlying69,
  a51 := Try.isAgg69,
  z51 := Try.sizeOf69,
  v51 := Try.zeroValue69,
  t53 := Try.underlying71,
  a53 := Try.isAgg71,
  z53 := Try.sizeOf71,
  v53 := Try.zeroValue71,
  t131 := Try.underlying29,
  a131 := Try.isAgg29,
  z131 := Try.sizeOf29,
  v131 := Try.zeroValue29,
  t182 := Try.underlying74,
  a182 := Try.isAgg74,
  z182 := Try.sizeOf74,
  v182 := Try.zeroValue74,
  t183 := Try.underlying75,
  a183 := Try.isAgg75,
  z183 := Try.sizeOf75,
  v183 := Try.zeroValue75,
  t218 := Try.underlying83,
  a218 := Try.isAgg83,
  z218 := Try.sizeOf83,
  v218 := Try.zeroValue83,
  t222 := Try.underlying87,
  a222 := Try.isAgg87,
  z222 := Try.sizeOf87,
  v222 := Try.zeroValue87,
  t228 := Try.underlying89,
  a228 := Try.isAgg89,
  z228 := Try.sizeOf89,
  v228 := Try.zeroValue89,
  t229 := Try.underlying37,
  a229 := Try.isAgg37,
  z229 := Try.sizeOf37,
  v229 := Try.zeroValue37 }

end Go.Proofs.Ythbgmmjgenkjpaa

namespace Go.Proofs.Ythbgmmjgenkjpaa
open Go.RowKit Go.Sort Res

theorem sorted_any {B g c : Nat} {w : World} {l : List Int} (hO : Owns B w (.slice (some ⟨g, 0, none⟩) l.length c) l) (hl : l.length ≤ 1000000) :
    Calls Try.prog 62 #[.slice (some ⟨g, 0, none⟩) l.length c] w fun e w' => e = .returned (.slice (some ⟨g, 0, none⟩) l.length c) ∧ Owns B w' (.slice (some ⟨g, 0, none⟩) l.length c) (srt l) ∧ w.grownBy w' (some g) := by
  obtain ⟨h1, h2⟩ := hO
  rcases h2 with ⟨h2, -⟩ | ⟨g', cap, cur, hv, hb, hh, hnc, hcm, hcs, ht⟩
  · cases h2
  · simp only [Value.slice.injEq, Option.some.injEq, Addr.mk.injEq, and_true] at hv
    obtain ⟨rfl, -, rfl⟩ := hv
    rw [Nat.mul_one] at ht
    have hblk := (Array.getElem?_eq_some_iff.1 hh).1
    have C : Calls Try.prog 81 #[.slice (some ⟨g, 0, none⟩) l.length c] w fun e w' => e = .returned (.tuple #[]) ∧ ∃ n os, w' = grow (putRow (Value.int .i64) (Sort.ahead w n) g 0 (srt l).toArray) os :=
      Any.slices_Sort_int lays189 g 0 c l w (holds_of_blockI hh ht) hblk (by omega)
    have HC := Lib.hid C
    have HF : Hid (∀ n os, Owns B (grow (putRow (Value.int .i64) (Sort.ahead w n) g 0 (srt l).toArray) os) (.slice (some ⟨g, 0, none⟩) l.length c) (srt l)) := Lib.hid (fun n os => by
      have := ownsRow_sortedI (n := n) (os := os) (ts := srt l) (ss := l) (srt_length l) hb hh hnc hcm (by rw [hcs])
      unfold Owns
      rw [srt_length]
      exact this)
    clear C
    go_enter Try.func62, Try.ntmps62
    go_wp2_with fail
    refine HC.out.mono ?_
    rintro e w' ⟨rfl, n, os, rfl⟩
    go_wp2_with fail
    go_ret
    exact ⟨rfl, HF.out n os, grownBy_sortedI _⟩

end Go.Proofs.Ythbgmmjgenkjpaa
