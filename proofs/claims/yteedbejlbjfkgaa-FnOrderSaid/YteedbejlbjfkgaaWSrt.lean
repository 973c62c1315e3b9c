/- The library's sort as it lies in this program; contract of the program's own sort on a list of the call's own. -/
import Derived.Test.YteedbejlbjfkgaaFr
import Derived.Test.YteedbejlbjfkgaaRd
import Derived.Test.YteedbejlbjfkgaaSrt
import Derived.Shelf.Lays
import Derived.Shelf.Sort.Plain
import Derived.Sort.OwnSortedInts
set_option linter.unusedVariables false
namespace Go.Proofs.Yteedbejlbjfkgaa
open Go.RowKit

def lays189_ren : Go.Shelf.Ren := ⟨fun | 189 => 77 | 125 => 92 | 257 => 91 | 128 => 109 | 129 => 110 | 294 => 100 | 295 => 101 | 296 => 102 | 297 => 103 | 298 => 104 | 299 => 105 | 216 => 106 | 300 => 107 | 301 => 108 | 328 => 112 | 329 => 113 | 330 => 114 | 331 => 115 | 332 => 116 | 215 => 117 | 343 => 118 | n => n, fun | 28 => 25 | 3 => 3 | 46 => 61 | 0 => 0 | 51 => 66 | 53 => 68 | 4 => 4 | 183 => 71 | 182 => 70 | 131 => 29 | 5 => 5 | 9 => 9 | 218 => 77 | 222 => 81 | 228 => 83 | 229 => 84 | n => n, fun | n => n⟩
theorem lays189 : Go.Proofs.Lays.n189 Try.prog lays189_ren := {
  mixed := by kernel_rfl,
  f125 := Try.func92.trans (congrArg some (by kernel_rfl)),
  f128 := Try.func109.trans (congrArg some (by kernel_rfl)),
  f129 := Try.func110.trans (congrArg some (by kernel_rfl)),
  f189 := Try.func77.trans (congrArg some (by kernel_rfl)),
  f215 := Try.func117.trans (congrArg some (by kernel_rfl)),
  f216 := Try.func106.trans (congrArg some (by kernel_rfl)),
  f257 := Try.func91.trans (congrArg some (by kernel_rfl)),
  f294 := Try.func100.trans (congrArg some (by kernel_rfl)),
  f295 := Try.func101.trans (congrArg some (by kernel_rfl)),
  f296 := Try.func102.trans (congrArg some (by kernel_rfl)),
  f297 := Try.func103.trans (congrArg some (by kernel_rfl)),
  f298 := Try.func104.trans (congrArg some (by kernel_rfl)),
  f299 := Try.func105.trans (congrArg some (by kernel_rfl)),
  f300 := Try.func107.trans (congrArg some (by kernel_rfl)),
  f301 := Try.func108.trans (congrArg some (by kernel_rfl)),
  f328 := Try.func112.trans (congrArg some (by kernel_rfl)),
  f329 := Try.func113.trans (congrArg some (by kernel_rfl)),
  f330 := Try.func114.trans (congrArg some (by kernel_rfl)),
  f331 := Try.func115.trans (congrArg some (by kernel_rfl)),
  f332 := Try.func116.trans (congrArg some (by kernel_rfl)),
  f343 := Try.func118.trans (congrArg some (by kernel_rfl)),
  t0 := Try.underlying0,
  a0 := Try.isAgg0,
  z0 := Try.sizeOf0,
  v0 := Try.zeroValue0,
  t3 := Try.underlying3,
  a3 := Try.isAgg3,
  z3 := Try.sizeOf3,
  v3 := Try.zeroValue3,
  t4 := Try.underlying4,
  a4 := Try.isAgg4,
  z4 := Try.sizeOf4,
  v4 := Try.zeroValue4,
  t5 := Try.underlying5,
  a5 := Try.isAgg5,
  z5 := Try.sizeOf5,
  v5 := Try.zeroValue5,
  t9 := Try.underlying9,
  a9 := Try.isAgg9,
  z9 := Try.sizeOf9,
  v9 := Try.zeroValue9,
  t28 := Try.underlying25,
  a28 := Try.isAgg25,
  z28 := Try.sizeOf25,
  v28 := Try.zeroValue25,
  t46 := Try.underlying61,
  a46 := Try.isAgg61,
  z46 := Try.sizeOf61,
  v46 := Try.zeroValue61,
  t51 := Try.underlying66,
  a51 := Try.isAgg66,
  z51 := Try.sizeOf66,
  v51 := Try.zeroValue66,
  t53 := Try.underlying68,
  a53 := Try.isAgg68,
  z53 := Try.sizeOf68,
  v53 := Try.zeroValue68,
  t131 := Try.underlying29,
  a131 := Try.isAgg29,
  z131 := Try.sizeOf29,
  v131 := Try.zeroValue29,
  t182 := Try.underlying70,
  a182 := Try.isAgg70,
  z182 := Try.sizeOf70,
  v182 := Try.zeroValue70,
  t183 := Try.underlying71,
  a183 := Try.isAgg71,
  z183 := Try.sizeOf71,
  v183 := Try.zeroValue71,
  t218 := Try.underlying77,
  a218 := Try.isAgg77,
  z218 := Try.sizeOf77,
  v218 := Try.zeroValue77,
  t222 := Try.underlying81,
  a222 := Try.isAgg81,
  z222 := Try.sizeOf81,
  v222 := Try.zeroValue81,
  t228 := Try.underlying83,
  a228 := Try.isAgg83,
  z228 := Try.sizeOf83,
  v228 := Try.zeroValue83,
  t229 := Try.underlying84,
  a229 := Try.isAgg84,
  z229 := Try.sizeOf84,
  v229 := Try.zeroValue84 }

end Go.Proofs.Yteedbejlbjfkgaa

namespace Go.Proofs.Yteedbejlbjfkgaa
open Go.RowKit Go.Sort Res

theorem sorted_any {B g c : Nat} {w : World} {l : List Int} (hO : Owns B w (.slice (some ⟨g, 0, none⟩) l.length c) l) (hl : l.length ≤ 1000000) :
    Calls Try.prog 50 #[.slice (some ⟨g, 0, none⟩) l.length c] w fun e w' => e = .returned (.slice (some ⟨g, 0, none⟩) l.length c) ∧ Owns B w' (.slice (some ⟨g, 0, none⟩) l.length c) (srt l) ∧ w.grownBy w' (some g) := by
  obtain ⟨h1, h2⟩ := hO
  rcases h2 with ⟨h2, -⟩ | ⟨g', cap, cur, hv, hb, hh, hnc, hcm, hcs, ht⟩
  · cases h2
  · simp only [Value.slice.injEq, Option.some.injEq, Addr.mk.injEq, and_true] at hv
    obtain ⟨rfl, -, rfl⟩ := hv
    rw [Nat.mul_one] at ht
    have hblk := (Array.getElem?_eq_some_iff.1 hh).1
    have C : Calls Try.prog 77 #[.slice (some ⟨g, 0, none⟩) l.length c] w fun e w' => e = .returned (.tuple #[]) ∧ ∃ n os, w' = grow (putRow (Value.int .i64) (Sort.ahead w n) g 0 (srt l).toArray) os :=
      Any.slices_Sort_int lays189 g 0 c l w (holds_of_blockI hh ht) hblk (by omega)
    have HC := Lib.hid C
    have HF : Hid (∀ n os, Owns B (grow (putRow (Value.int .i64) (Sort.ahead w n) g 0 (srt l).toArray) os) (.slice (some ⟨g, 0, none⟩) l.length c) (srt l)) := Lib.hid (fun n os => by
      have := ownsRow_sortedI (n := n) (os := os) (ts := srt l) (ss := l) (srt_length l) hb hh hnc hcm (by rw [hcs])
      unfold Owns
      rw [srt_length]
      exact this)
    clear C
    go_enter Try.func50, Try.ntmps50
    go_wp2_with fail
    refine HC.out.mono ?_
    rintro e w' ⟨rfl, n, os, rfl⟩
    go_wp2_with fail
    go_ret
    exact ⟨rfl, HF.out n os, grownBy_sortedI _⟩

end Go.Proofs.Yteedbejlbjfkgaa
