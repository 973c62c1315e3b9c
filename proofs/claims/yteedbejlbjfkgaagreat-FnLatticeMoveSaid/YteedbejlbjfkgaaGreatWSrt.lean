/- The library's sort as it lies in this program; contract of the program's own sort on a list of the call's own. -/
import Derived.Test.YteedbejlbjfkgaaGreatFr
import Derived.Test.YteedbejlbjfkgaaGreatRd
import Derived.Test.YteedbejlbjfkgaaGreatPl
import Derived.Shelf.Lays
import Derived.Shelf.Sort.Plain
import Derived.Sort.OwnSortedInts
set_option linter.unusedVariables false
namespace Go.Proofs.YteedbejlbjfkgaaGreat
open Go.RowKit

def lays189_ren : Go.Shelf.Ren := ⟨fun | 189 => 39 | 125 => 62 | 257 => 61 | 128 => 89 | 129 => 90 | 294 => 80 | 295 => 81 | 296 => 82 | 297 => 83 | 298 => 84 | 299 => 85 | 216 => 86 | 300 => 87 | 301 => 88 | 328 => 100 | 329 => 101 | 330 => 102 | 331 => 103 | 332 => 104 | 215 => 105 | 343 => 108 | n => n, fun | 28 => 23 | 3 => 3 | 46 => 62 | 0 => 0 | 51 => 73 | 53 => 75 | 4 => 4 | 183 => 66 | 182 => 65 | 131 => 52 | 5 => 5 | 9 => 9 | 218 => 77 | 222 => 81 | 228 => 83 | 229 => 84 | n => n, fun | n => n⟩
theorem lays189 : Go.Proofs.Lays.n189 Tryz.prog lays189_ren := {
  mixed := by kernel_rfl,
  f125 := Tryz.func62.trans (congrArg some (by kernel_rfl)),
  f128 := Tryz.func89.trans (congrArg some (by kernel_rfl)),
  f129 := Tryz.func90.trans (congrArg some (by kernel_rfl)),
  f189 := Tryz.func39.trans (congrArg some (by kernel_rfl)),
  f215 := Tryz.func105.trans (congrArg some (by kernel_rfl)),
  f216 := Tryz.func86.trans (congrArg some (by kernel_rfl)),
  f257 := Tryz.func61.trans (congrArg some (by kernel_rfl)),
  f294 := Tryz.func80.trans (congrArg some (by kernel_rfl)),
  f295 := Tryz.func81.trans (congrArg some (by kernel_rfl)),
  f296 := Tryz.func82.trans (congrArg some (by kernel_rfl)),
  f297 := Tryz.func83.trans (congrArg some (by kernel_rfl)),
  f298 := Tryz.func84.trans (congrArg some (by kernel_rfl)),
  f299 := Tryz.func85.trans (congrArg some (by kernel_rfl)),
  f300 := Tryz.func87.trans (congrArg some (by kernel_rfl)),
  f301 := Tryz.func88.trans (congrArg some (by kernel_rfl)),
  f328 := Tryz.func100.trans (congrArg some (by kernel_rfl)),
  f329 := Tryz.func101.trans (congrArg some (by kernel_rfl)),
  f330 := Tryz.func102.trans (congrArg some (by kernel_rfl)),
  f331 := Tryz.func103.trans (congrArg some (by kernel_rfl)),
  f332 := Tryz.func104.trans (congrArg some (by kernel_rfl)),
  f343 := Tryz.func108.trans (congrArg some (by kernel_rfl)),
  t0 := Tryz.underlying0,
  a0 := Tryz.isAgg0,
  z0 := Tryz.sizeOf0,
  v0 := Tryz.zeroValue0,
  t3 := Tryz.underlying3,
  a3 := Tryz.isAgg3,
  z3 := Tryz.sizeOf3,
  v3 := Tryz.zeroValue3,
  t4 := Tryz.underlying4,
  a4 := Tryz.isAgg4,
  z4 := Tryz.sizeOf4,
  v4 := Tryz.zeroValue4,
  t5 := Tryz.underlying5,
  a5 := Tryz.isAgg5,
  z5 := Tryz.sizeOf5,
  v5 := Tryz.zeroValue5,
  t9 := Tryz.underlying9,
  a9 := Tryz.isAgg9,
  z9 := Tryz.sizeOf9,
  v9 := Tryz.zeroValue9,
  t28 := Tryz.underlying23,
  a28 := Tryz.isAgg23,
  z28 := Tryz.sizeOf23,
  v28 := Tryz.zeroValue23,
  t46 := Tryz.underlying62,
  a46 := Tryz.isAgg62,
  z46 := Tryz.sizeOf62,
  v46 := Tryz.zeroValue62,
  t51 := Tryz.underlying73,
  a51 := Tryz.isAgg73,
  z51 := Tryz.sizeOf73,
  v51 := Tryz.zeroValue73,
  t53 := Tryz.underlying75,
  a53 := Tryz.isAgg75,
  z53 := Tryz.sizeOf75,
  v53 := Tryz.zeroValue75,
  t131 := Tryz.underlying52,
  a131 := Tryz.isAgg52,
  z131 := Tryz.sizeOf52,
  v131 := Tryz.zeroValue52,
  t182 := Tryz.underlying65,
  a182 := Tryz.isAgg65,
  z182 := Tryz.sizeOf65,
  v182 := Tryz.zeroValue65,
  t183 := Tryz.underlying66,
  a183 := Tryz.isAgg66,
  z183 := Tryz.sizeOf66,
  v183 := Tryz.zeroValue66,
  t218 := Tryz.underlying77,
  a218 := Tryz.isAgg77,
  z218 := Tryz.sizeOf77,
  v218 := Tryz.zeroValue77,
  t222 := Tryz.underlying81,
  a222 := Tryz.isAgg81,
  z222 := Tryz.sizeOf81,
  v222 := Tryz.zeroValue81,
  t228 := Tryz.underlying83,
  a228 := Tryz.isAgg83,
  z228 := Tryz.sizeOf83,
  v228 := Tryz.zeroValue83,
  t229 := Tryz.underlying84,
  a229 := Tryz.isAgg84,
  z229 := Tryz.sizeOf84,
  v229 := Tryz.zeroValue84 }

end Go.Proofs.YteedbejlbjfkgaaGreat

namespace Go.Proofs.YteedbejlbjfkgaaGreat
open Go.RowKit Go.Sort Res

theorem sorted_any {B g c : Nat} {w : World} {l : List Int} (hO : Owns B w (.slice (some ⟨g, 0, none⟩) l.length c) l) (hl : l.length ≤ 1000000) :
    Calls Tryz.prog 19 #[.slice (some ⟨g, 0, none⟩) l.length c] w fun e w' => e = .returned (.slice (some ⟨g, 0, none⟩) l.length c) ∧ Owns B w' (.slice (some ⟨g, 0, none⟩) l.length c) (srt l) ∧ w.grownBy w' (some g) := by
  obtain ⟨h1, h2⟩ := hO
  rcases h2 with ⟨h2, -⟩ | ⟨g', cap, cur, hv, hb, hh, hnc, hcm, hcs, ht⟩
  · cases h2
  · simp only [Value.slice.injEq, Option.some.injEq, Addr.mk.injEq, and_true] at hv
    obtain ⟨rfl, -, rfl⟩ := hv
    rw [Nat.mul_one] at ht
    have hblk := (Array.getElem?_eq_some_iff.1 hh).1
    have C : Calls Tryz.prog 39 #[.slice (some ⟨g, 0, none⟩) l.length c] w fun e w' => e = .returned (.tuple #[]) ∧ ∃ n os, w' = grow (putRow (Value.int .i64) (Sort.ahead w n) g 0 (srt l).toArray) os :=
      Any.slices_Sort_int lays189 g 0 c l w (holds_of_blockI hh ht) hblk (by omega)
    have HC := Lib.hid C
    have HF : Hid (∀ n os, Owns B (grow (putRow (Value.int .i64) (Sort.ahead w n) g 0 (srt l).toArray) os) (.slice (some ⟨g, 0, none⟩) l.length c) (srt l)) := Lib.hid (fun n os => by
      have := ownsRow_sortedI (n := n) (os := os) (ts := srt l) (ss := l) (srt_length l) hb hh hnc hcm (by rw [hcs])
      unfold Owns
      rw [srt_length]
      exact this)
    clear C
    go_enter Tryz.func19, Tryz.ntmps19
    go_wp2_with fail
    refine HC.out.mono ?_
    rintro e w' ⟨rfl, n, os, rfl⟩
    go_wp2_with fail
    go_ret
    exact ⟨rfl, HF.out n os, grownBy_sortedI _⟩

end Go.Proofs.YteedbejlbjfkgaaGreat
