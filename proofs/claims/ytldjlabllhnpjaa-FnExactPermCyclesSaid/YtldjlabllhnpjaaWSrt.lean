/- The library's sort as it lies in this program; contract of the program's own sort on a list of the call's own. -/
import Derived.Test.YtldjlabllhnpjaaFr
import Derived.Test.YtldjlabllhnpjaaRd
import Derived.Test.YtldjlabllhnpjaaSrt
import Derived.Shelf.Lays
import Derived.Shelf.Sort.Plain
import Derived.Sort.OwnSortedInts
set_option linter.unusedVariables false
namespace Go.Proofs.Ytldjlabllhnpjaa
open Go.RowKit

def lays189_ren : Go.Shelf.Ren := ⟨fun | 189 => 133 | 125 => 146 | 257 => 145 | 128 => 156 | 129 => 157 | 294 => 147 | 295 => 148 | 296 => 149 | 297 => 150 | 298 => 151 | 299 => 152 | 216 => 153 | 300 => 154 | 301 => 155 | 328 => 158 | 329 => 159 | 330 => 160 | 331 => 161 | 332 => 162 | 215 => 163 | 343 => 164 | n => n, fun | 28 => 22 | 3 => 3 | 46 => 68 | 0 => 0 | 51 => 74 | 53 => 76 | 4 => 4 | 183 => 80 | 182 => 79 | 131 => 31 | 5 => 5 | 9 => 9 | 218 => 86 | 222 => 90 | 228 => 92 | 229 => 93 | n => n, fun | n => n⟩
theorem lays189 : Go.Proofs.Lays.n189 Try.prog lays189_ren := {
  mixed := by kernel_rfl,
  f125 := Try.func146.trans (congrArg some (by kernel_rfl)),
  f128 := Try.func156.trans (congrArg some (by kernel_rfl)),
  f129 := Try.func157.trans (congrArg some (by kernel_rfl)),
  f189 := Try.func133.trans (congrArg some (by kernel_rfl)),
  f215 := Try.func163.trans (congrArg some (by kernel_rfl)),
  f216 := Try.func153.trans (congrArg some (by kernel_rfl)),
  f257 := Try.func145.trans (congrArg some (by kernel_rfl)),
  f294 := Try.func147.trans (congrArg some (by kernel_rfl)),
  f295 := Try.func148.trans (congrArg some (by kernel_rfl)),
  f296 := Try.func149.trans (congrArg some (by kernel_rfl)),
  f297 := Try.func150.trans (congrArg some (by kernel_rfl)),
  f298 := Try.func151.trans (congrArg some (by kernel_rfl)),
  f299 := Try.func152.trans (congrArg some (by kernel_rfl)),
  f300 := Try.func154.trans (congrArg some (by kernel_rfl)),
  f301 := Try.func155.trans (congrArg some (by kernel_rfl)),
  f328 := Try.func158.trans (congrArg some (by kernel_rfl)),
  f329 := Try.func159.trans (congrArg some (by kernel_rfl)),
  f330 := Try.func160.trans (congrArg some (by kernel_rfl)),
  f331 := Try.func161.trans (congrArg some (by kernel_rfl)),
  f332 := Try.func162.trans (congrArg some (by kernel_rfl)),
  f343 := Try.func164.trans (congrArg some (by kernel_rfl)),
  t0 := Try.underlying0,
  a0 := Try.isAgg0,
  z0 := Try.sizeOf0,
  v0 := Try.zeroValue0,
  t3 := Try.underlying3,
  a3 := Try.isAgg3,
  z3 := Try.sizeOf3,
  v3 := Try.zeroValue3,
  t4 := Try.underlying4,
  a4 := Try.isAgg4,
  z4 := Try.sizeOf4,
  v4 := Try.zeroValue4,
  t5 := Try.underlying5,
  a5 := Try.isAgg5,
  z5 := Try.sizeOf5,
  v5 := Try.zeroValue5,
  t9 := Try.underlying9,
  a9 := Try.isAgg9,
  z9 := Try.sizeOf9,
  v9 := Try.zeroValue9,
  t28 := Try.underlying22,
  a28 := Try.isAgg22,
  z28 := Try.sizeOf22,
  v28 := Try.zeroValue22,
  t46 := Try.underlying68,
  a46 := Try.isAgg68,
  z46 := Try.sizeOf68,
  v46 := Try.zeroValue68,
  t51 := Try.underlying74,
  a51 := Try.isAgg74,
  z51 := Try.sizeOf74,
  v51 := Try.zeroValue74,
  t53 := Try.underlying76,
  a53 := Try.isAgg76,
  z53 := Try.sizeOf76,
  v53 := Try.zeroValue76,
  t131 := Try.underlying31,
  a131 := Try.isAgg31,
  z131 := Try.sizeOf31,
  v131 := Try.zeroValue31,
  t182 := Try.underlying79,
  a182 := Try.isAgg79,
  z182 := Try.sizeOf79,
  v182 := Try.zeroValue79,
  t183 := Try.underlying80,
  a183 := Try.isAgg80,
  z183 := Try.sizeOf80,
  v183 := Try.zeroValue80,
  t218 := Try.underlying86,
  a218 := Try.isAgg86,
  z218 := Try.sizeOf86,
  v218 := Try.zeroValue86,
  t222 := Try.underlying90,
  a222 := Try.isAgg90,
  z222 := Try.sizeOf90,
  v222 := Try.zeroValue90,
  t228 := Try.underlying92,
  a228 := Try.isAgg92,
  z228 := Try.sizeOf92,
  v228 := Try.zeroValue92,
  t229 := Try.underlying93,
  a229 := Try.isAgg93,
  z229 := Try.sizeOf93,
  v229 := Try.zeroValue93 }

end Go.Proofs.Ytldjlabllhnpjaa

namespace Go.Proofs.Ytldjlabllhnpjaa
open Go.RowKit Go.Sort Res

theorem sorted_any {B g c : Nat} {w : World} {l : List Int} (hO : Owns B w (.slice (some ⟨g, 0, none⟩) l.length c) l) (hl : l.length ≤ 1000000) :
    Calls Try.prog 100 #[.slice (some ⟨g, 0, none⟩) l.length c] w fun e w' => e = .returned (.slice (some ⟨g, 0, none⟩) l.length c) ∧ Owns B w' (.slice (some ⟨g, 0, none⟩) l.length c) (srt l) ∧ w.grownBy w' (some g) := by
  obtain ⟨h1, h2⟩ := hO
  rcases h2 with ⟨h2, -⟩ | ⟨g', cap, cur, hv, hb, hh, hnc, hcm, hcs, ht⟩
  · cases h2
  · simp only [Value.slice.injEq, Option.some.injEq, Addr.mk.injEq, and_true] at hv
    obtain ⟨rfl, -, rfl⟩ := hv
    rw [Nat.mul_one] at ht
    have hblk := (Array.getElem?_eq_some_iff.1 hh).1
    have C : Calls Try.prog 133 #[.slice (some ⟨g, 0, none⟩) l.length c] w fun e w' => e = .returned (.tuple #[]) ∧ ∃ n os, w' = grow (putRow (Value.int .i64) (Sort.ahead w n) g 0 (srt l).toArray) os :=
      Any.slices_Sort_int lays189 g 0 c l w (holds_of_blockI hh ht) hblk (by omega)
    have HC := Lib.hid C
    have HF : Hid (∀ n os, Owns B (grow (putRow (Value.int .i64) (Sort.ahead w n) g 0 (srt l).toArray) os) (.slice (some ⟨g, 0, none⟩) l.length c) (srt l)) := Lib.hid (fun n os => by
      have := ownsRow_sortedI (n := n) (os := os) (ts := srt l) (ss := l) (srt_length l) hb hh hnc hcm (by rw [hcs])
      unfold Owns
      rw [srt_length]
      exact this)
    clear C
    go_enter Try.func100, Try.ntmps100
    go_wp2_with fail
    refine HC.out.mono ?_
    rintro e w' ⟨rfl, n, os, rfl⟩
    go_wp2_with fail
    go_ret
    exact ⟨rfl, HF.out n os, grownBy_sortedI _⟩

end Go.Proofs.Ytldjlabllhnpjaa
