/- Contracts of LatticeShape. -/
import Derived.Test.YteedbejlbjfkgaaGreatWVec
import Derived.Test.YteedbejlbjfkgaaGreatWInner
import Derived.Test.YteedbejlbjfkgaaGreatMk
import Derived.Test.YteedbejlbjfkgaaGreatWSort
import Derived.Test.YteedbejlbjfkgaaGreatWSrt
set_option linter.unusedVariables false
namespace Go.Proofs.YteedbejlbjfkgaaGreat
open Go.RowKit Res

/-- Sizes of the first k numbers. -/
def absTo (l : List Int) (k : Nat) : List Int := (List.range k).map fun i => (((l.getD i 0).natAbs : Nat) : Int)
theorem absTo_succ (l : List Int) (k : Nat) : absTo l (k + 1) = absTo l k ++ [(((l.getD k 0).natAbs : Nat) : Int)] := by simp [absTo, List.range_succ]
theorem absTo_length (l : List Int) (k : Nat) : (absTo l k).length = k := by simp [absTo]
/-- The shape of a vector. -/
def shapeV (l : List Int) : List Int := srt (absTo l 24)
theorem shapeV_length (l : List Int) : (shapeV l).length = 24 := by unfold shapeV; rw [srt_length, absTo_length]

theorem implLatticeShape_ok (a : Option Addr) (cap : Nat) (l : List Int) (w : World) (hr : Reads .i64 w a l) (hv : vecOk l = true) :
    Calls Tryz.prog 9 #[.slice a l.length cap] w fun e w' => ∃ v, e = .returned (.tuple #[v, .bool true]) ∧ Owns w.heap.size w' v (shapeV l) ∧ Below w.heap.size w w' := by
  have hl := vecOk_length hv
  have C1 := Lib.hid (fun w' (hb : Below w.heap.size w w') => implVectorValid_any a cap l w' (by omega) (hr.kept hb))
  have HB := Lib.hid (fun k => vecOk_get hv k)
  have HSV : Hid (srt (absTo l 24) = shapeV l) := Lib.hid rfl
  rw [hv, hl] at C1
  rw [hl]
  have HL := Lib.hid hl
  clear hv hl
  have hb1 : Below w.heap.size w (w.alloc (.cells #[] 3)) := (Below.refl _ _).alloc (Nat.le_refl _) _
  have hO0 := Owns.empty w (Nat.le_refl w.heap.size)
  generalize shapeV l = SV at *
  go_enter Tryz.func9, Tryz.ntmps9
  go_wp2_with fail
  refine (C1.out _ hb1).mono ?_
  rintro e w' ⟨rfl, rfl⟩
  go_wp2_with fail
  go_loopw [4, 14] (fun v x wr => ∃ k : Nat, k ≤ 24 ∧ x = .int .i64 (k : Int) ∧ Owns w.heap.size wr v (absTo l k) ∧ Below w.heap.size w wr)
    (fun _ x _ => (24 - (intOf x).toNat))
  case atStart => exact ⟨0, by omega, rfl, hO0, hb1⟩
  case round =>
    obtain ⟨k, hk, rfl, hO, hbel⟩ := hrel
    have hlen := Nat.le_of_eq (absTo_length l k)
    have hsz := hbel.size
    by_cases hlt : k < 24
    · have hki : (k : Int) < 24 := by omega
      obtain ⟨x, offx, ha, hbx, hcx⟩ := hr k (by rw [HL.out]; exact hlt)
      subst ha
      have hcx' : wr.cell? ⟨x, offx + k, none⟩ = some (.int .i64 (l.getD k 0)) := by rw [hbel.cell (p := ⟨x, offx + k, none⟩) hbx]; exact hcx
      have D := Lib.hid (absTo_succ l k)
      have hbd := HB.out k
      clear hcx
      generalize l.getD k 0 = y at *
      have hneg : IntKind.i64.wrap (-y) = -y := IntWalk.i64_in _ (by omega)
      have hab : ((y.natAbs : Nat) : Int) = max y (-y) := by omega
      rw [hab] at D
      clear hab
      go_wp2_with (first | (at_builtin; refine wpList_app rfl _ _ rfl w.heap.size _ rfl hO rfl (by omega) (by omega) ?_; intro v' w1 hO' hbel' hg'))
      go_roundw
      case rel => exact ⟨k + 1, by omega, by go_num, by rw [D.out]; exact hO', hbel.trans hbel'⟩
      case measure => simp [intOf]; omega
    · obtain rfl : k = 24 := by omega
      obtain ⟨g, c7, rfl, hgB, hgl, -, -, -, -⟩ := hO.head (by rw [absTo_length]; omega)
      have CS := Lib.hid (sorted_any hO (by omega))
      rw [HSV.out] at CS
      clear hO hlen
      generalize (absTo l 24).length = N at *
      go_wp2_with fail
      refine CS.out.mono ?_
      rintro e w2 ⟨rfl, hO2, hg2⟩
      go_wp2_with fail
      go_ret2
      exact ⟨_, rfl, hO2, hbel.grown hg2 hsz (by rintro q hq; cases hq; exact hgB)⟩

theorem implLatticeShape_no (a : Option Addr) (cap : Nat) (l : List Int) (w : World) (hl : l.length ≤ 9223372036854775807) (hr : Reads .i64 w a l) (hv : vecOk l = false) :
    Calls Tryz.prog 9 #[.slice a l.length cap] w fun e w' => ∃ v, e = .returned (.tuple #[v, .bool false]) ∧ Owns w.heap.size w' v [] ∧ Below w.heap.size w w' := by
  have hb1 : Below w.heap.size w (w.alloc (.cells #[] 3)) := (Below.refl _ _).alloc (Nat.le_refl _) _
  have hO0 := Owns.empty w (Nat.le_refl w.heap.size)
  have C1 := Lib.hid (implVectorValid_any a cap l _ hl (hr.kept hb1))
  rw [hv] at C1
  clear hv
  go_enter Tryz.func9, Tryz.ntmps9
  go_wp2_with fail
  refine (C1.out).mono ?_
  rintro e w' ⟨rfl, rfl⟩
  go_wp2_with fail
  go_ret2
  exact ⟨_, rfl, hO0, hb1⟩
end Go.Proofs.YteedbejlbjfkgaaGreat
