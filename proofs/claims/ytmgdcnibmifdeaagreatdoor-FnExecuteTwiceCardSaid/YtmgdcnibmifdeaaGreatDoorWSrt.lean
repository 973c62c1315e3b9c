/- The library's sort as it lies in this program; contract of the program's own sort on a list of the call's own. -/
import Derived.Test.YtmgdcnibmifdeaaGreatDoorFr
import Derived.Test.YtmgdcnibmifdeaaGreatDoorRd
import Derived.Test.YtmgdcnibmifdeaaGreatDoorSrt
import Derived.Shelf.Lays
import Derived.Shelf.Sort.Plain
import Derived.Sort.OwnSortedInts
set_option linter.unusedVariables false
namespace Go.Proofs.YtmgdcnibmifdeaaGreatDoor
open Go.RowKit

def lays189_ren : Go.Shelf.Ren := ⟨fun | 189 => 118 | 125 => 158 | 257 => 157 | 128 => 190 | 129 => 172 | 294 => 181 | 295 => 182 | 296 => 183 | 297 => 184 | 298 => 185 | 299 => 186 | 216 => 187 | 300 => 188 | 301 => 189 | 328 => 200 | 329 => 201 | 330 => 202 | 331 => 203 | 332 => 204 | 215 => 205 | 343 => 211 | n => n, fun | 28 => 63 | 3 => 3 | 46 => 83 | 0 => 0 | 51 => 100 | 53 => 102 | 4 => 4 | 183 => 140 | 182 => 139 | 131 => 27 | 5 => 5 | 9 => 9 | 218 => 156 | 222 => 160 | 228 => 169 | 229 => 170 | n => n, fun | n => n⟩
theorem lays189 : Go.Proofs.Lays.n189 Tryz.prog lays189_ren := {
  mixed := by kernel_rfl,
  f125 := Tryz.func158.trans (congrArg some (by kernel_rfl)),
  f128 := Tryz.func190.trans (congrArg some (by kernel_rfl)),
  f129 := Tryz.func172.trans (congrArg some (by kernel_rfl)),
  f189 := Tryz.func118.trans (congrArg some (by kernel_rfl)),
  f215 := Tryz.func205.trans (congrArg some (by kernel_rfl)),
  f216 := Tryz.func187.trans (congrArg some (by kernel_rfl)),
  f257 := Tryz.func157.trans (congrArg some (by kernel_rfl)),
  f294 := Tryz.func181.trans (congrArg some (by kernel_rfl)),
  f295 := Tryz.func182.trans (congrArg some (by kernel_rfl)),
  f296 := Tryz.func183.trans (congrArg some (by kernel_rfl)),
  f297 := Tryz.func184.trans (congrArg some (by kernel_rfl)),
  f298 := Tryz.func185.trans (congrArg some (by kernel_rfl)),
  f299 := Tryz.func186.trans (congrArg some (by kernel_rfl)),
  f300 := Tryz.func188.trans (congrArg some (by kernel_rfl)),
  f301 := Tryz.func189.trans (congrArg some (by kernel_rfl)),
  f328 := Tryz.func200.trans (congrArg some (by kernel_rfl)),
  f329 := Tryz.func201.trans (congrArg some (by kernel_rfl)),
  f330 := Tryz.func202.trans (congrArg some (by kernel_rfl)),
  f331 := Tryz.func203.trans (congrArg some (by kernel_rfl)),
  f332 := Tryz.func204.trans (congrArg some (by kernel_rfl)),
  f343 := Tryz.func211.trans (congrArg some (by kernel_rfl)),
  t0 := Tryz.underlying0,
  a0 := Tryz.isAgg0,
  z0 := Tryz.sizeOf0,
  v0 := Tryz.zeroValue0,
  t3 := Tryz.underlying3,
  a3 := Tryz.isAgg3,
  z3 := Tryz.sizeOf3,
  v3 := Tryz.zeroValue3,
  t4 := Tryz.underlying4,
  a4 := Tryz.isAgg4,
  z4 := Tryz.sizeOf4,
  v4 := Tryz.zeroValue4,
  t5 := Tryz.underlying5,
  a5 := Tryz.isAgg5,
  z5 := Tryz.sizeOf5,
  v5 := Tryz.zeroValue5,
  t9 := Tryz.underlying9,
  a9 := Tryz.isAgg9,
  z9 := Tryz.sizeOf9,
  v9 := Tryz.zeroValue9,
  t28 := Tryz.underlying63,
  a28 := Tryz.isAgg63,
  z28 := Tryz.sizeOf63,
  v28 := Tryz.zeroValue63,
  t46 := Tryz.underlying83,
  a46 := Tryz.isAgg83,
  z46 := Tryz.sizeOf83,
  v46 := Tryz.zeroValue83,
  t51 := Tryz.underlying100,
  a51 := Tryz.isAgg100,
  z51 := Tryz.sizeOf100,
  v51 := Tryz.zeroValue100,
  t53 := Tryz.underlying102,
  a53 := Tryz.isAgg102,
  z53 := Tryz.sizeOf102,
  v53 := Tryz.zeroValue102,
  t131 := Tryz.underlying27,
  a131 := Tryz.isAgg27,
  z131 := Tryz.sizeOf27,
  v131 := Tryz.zeroValue27,
  t182 := Tryz.underlying139,
  a182 := Tryz.isAgg139,
  z182 := Tryz.sizeOf139,
  v182 := Tryz.zeroValue139,
  t183 := Tryz.underlying140,
  a183 := Tryz.isAgg140,
  z183 := Tryz.sizeOf140,
  v183 := Tryz.zeroValue140,
  t218 := Tryz.underlying156,
  a218 := Tryz.isAgg156,
  z218 := Tryz.sizeOf156,
  v218 := Tryz.zeroValue156,
  t222 := Tryz.underlying160,
  a222 := Tryz.isAgg160,
  z222 := Tryz.sizeOf160,
  v222 := Tryz.zeroValue160,
  t228 := Tryz.underlying169,
  a228 := Tryz.isAgg169,
  z228 := Tryz.sizeOf169,
  v228 := Tryz.zeroValue169,
  t229 := Tryz.underlying170,
  a229 := Tryz.isAgg170,
  z229 := Tryz.sizeOf170,
  v229 := Tryz.zeroValue170 }

end Go.Proofs.YtmgdcnibmifdeaaGreatDoor

namespace Go.Proofs.YtmgdcnibmifdeaaGreatDoor
open Go.RowKit Go.Sort Res

theorem sorted_any {B g c : Nat} {w : World} {l : List Int} (hO : Owns B w (.slice (some ⟨g, 0, none⟩) l.length c) l) (hl : l.length ≤ 1000000) :
    Calls Tryz.prog 79 #[.slice (some ⟨g, 0, none⟩) l.length c] w fun e w' => e = .returned (.slice (some ⟨g, 0, none⟩) l.length c) ∧ Owns B w' (.slice (some ⟨g, 0, none⟩) l.length c) (srt l) ∧ w.grownBy w' (some g) := by
  obtain ⟨h1, h2⟩ := hO
  rcases h2 with ⟨h2, -⟩ | ⟨g', cap, cur, hv, hb, hh, hnc, hcm, hcs, ht⟩
  · cases h2
  · simp only [Value.slice.injEq, Option.some.injEq, Addr.mk.injEq, and_true] at hv
    obtain ⟨rfl, -, rfl⟩ := hv
    rw [Nat.mul_one] at ht
    have hblk := (Array.getElem?_eq_some_iff.1 hh).1
    have C : Calls Tryz.prog 118 #[.slice (some ⟨g, 0, none⟩) l.length c] w fun e w' => e = .returned (.tuple #[]) ∧ ∃ n os, w' = grow (putRow (Value.int .i64) (Sort.ahead w n) g 0 (srt l).toArray) os :=
      Any.slices_Sort_int lays189 g 0 c l w (holds_of_blockI hh ht) hblk (by omega)
    have HC := Lib.hid C
    have HF : Hid (∀ n os, Owns B (grow (putRow (Value.int .i64) (Sort.ahead w n) g 0 (srt l).toArray) os) (.slice (some ⟨g, 0, none⟩) l.length c) (srt l)) := Lib.hid (fun n os => by
      have := ownsRow_sortedI (n := n) (os := os) (ts := srt l) (ss := l) (srt_length l) hb hh hnc hcm (by rw [hcs])
      unfold Owns
      rw [srt_length]
      exact this)
    clear C
    go_enter Tryz.func79, Tryz.ntmps79
    go_wp2_with fail
    refine HC.out.mono ?_
    rintro e w' ⟨rfl, n, os, rfl⟩
    go_wp2_with fail
    go_ret
    exact ⟨rfl, HF.out n os, grownBy_sortedI _⟩

end Go.Proofs.YtmgdcnibmifdeaaGreatDoor
