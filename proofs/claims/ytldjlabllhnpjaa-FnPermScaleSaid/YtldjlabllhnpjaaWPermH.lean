/- Contracts of PermHex. -/
import Derived.Test.YtldjlabllhnpjaaWHexP
import Derived.Test.YtldjlabllhnpjaaWDrawP
import Derived.Test.YtldjlabllhnpjaaMk
set_option linter.unusedVariables false
namespace Go.Proofs.Ytldjlabllhnpjaa
open Go.RowKit Res

theorem permHex1_any (c r : Nat) (bx b off cap : Nat) (y : Nat) (w : World) (hc : c < 6) (hr : r < 4) (hy : y ≤ 3)
    (hbx : w.cell? ⟨bx, 0, none⟩ = some (.slice (some ⟨b, off, none⟩) 6 cap)) (hcell : w.cell? ⟨b, off + c, none⟩ = some (.int .i64 (y : Int))) :
    Calls Try.prog 72 #[.int .i64 (c : Int), .int .i64 (r : Int), .pointer (some ⟨bx, 0, none⟩)] w fun e w' => e = .returned (.int .i64 ((r ^^^ y : Nat) : Int)) ∧ w = w' := by
  have hci : (c : Int) < 6 := by omega
  have hx : bits .xor .i64 (r : Int) (y : Int) = ((r ^^^ y : Nat) : Int) := i64_xor _ _ (by omega) (by omega)
  go_enter Try.func72, Try.ntmps72
  go_wp2
  go_ret
  exact ⟨rfl, rfl⟩

theorem permOfHex_any (bx b off cap : Nat) (row : List Nat) (w : World) (hl : row.length = 6) (hd : ∀ i, row.getD i 0 ≤ 3)
    (hbl : bx < w.heap.size) (hbx : w.cell? ⟨bx, 0, none⟩ = some (.slice (some ⟨b, off, none⟩) 6 cap)) (hr : ReadsN w (some ⟨b, off, none⟩) row) :
    Calls Try.prog 71 #[.func (.func 72) #[] #[.pointer (some ⟨bx, 0, none⟩)]] w fun e w' => ∃ v, e = .returned v ∧ Owns w.heap.size w' v (hexL row) ∧ Below w.heap.size w w' := by
  have HD := Lib.hid hd
  have HL := Lib.hid hl
  clear hd hl
  go_enter Try.func71, Try.ntmps71
  go_wp2_with fail
  go_loopw [3, 7] (fun v x wr => ∃ c : Nat, c ≤ 6 ∧ x = .int .i64 (c : Int) ∧ Owns w.heap.size wr v (hxTo row (4 * c)) ∧ Below w.heap.size w wr)
    (fun _ x _ => (6 - (intOf x).toNat))
  case atStart => exact ⟨0, by omega, rfl, Owns.empty w (Nat.le_refl _), (Below.refl _ _).alloc (Nat.le_refl _) _⟩
  case round =>
    obtain ⟨c, hc, rfl, hO, hbel⟩ := hrel
    by_cases hlt : c < 6
    · have hci : (c : Int) < 6 := by omega
      go_wp2_with fail
      go_loopw [3, 10] (fun v x wr => ∃ r : Nat, r ≤ 4 ∧ x = .int .i64 (r : Int) ∧ Owns w.heap.size wr v (hxTo row (4 * c + r)) ∧ Below w.heap.size w wr)
        (fun _ x _ => (4 - (intOf x).toNat))
      case atStart => exact ⟨0, by omega, rfl, hO, hbel⟩
      case round =>
        obtain ⟨r, hr4, rfl, hO2, hbel2⟩ := hrel
        have hlen := Nat.le_of_eq (hxTo_length row (4 * c + r))
        have hsz := hbel2.size
        by_cases hlt2 : r < 4
        · have hri : (r : Int) < 4 := by omega
          obtain ⟨b', off', ha, hb, hcc⟩ := hr c (by rw [HL.out]; exact hlt)
          simp only [Option.some.injEq, Addr.mk.injEq, and_true] at ha
          obtain ⟨rfl, rfl⟩ := ha
          have hd := HD.out c
          have hcc' : wr.cell? ⟨b, off + c, none⟩ = some (.int .i64 ((row.getD c 0 : Nat) : Int)) := by rw [hbel2.cell (p := ⟨b, off + c, none⟩) hb]; exact hcc
          have hbx' : wr.cell? ⟨bx, 0, none⟩ = some (.slice (some ⟨b, off, none⟩) 6 cap) := by rw [hbel2.cell (p := ⟨bx, 0, none⟩) hbl]; exact hbx
          have D := hxTo_succ row (4 * c + r)
          rw [show (4 * c + r) / 4 = c by omega, show (4 * c + r) % 4 = r by omega] at D
          have CP := Lib.hid (permHex1_any c r bx b off cap (row.getD c 0) wr hlt hlt2 hd hbx' hcc')
          generalize row.getD c 0 = y at *
          have hx : r ^^^ y < 2 ^ 2 := Nat.xor_lt_two_pow (by omega) (by omega)
          have e0 : ((c * 4 + (r ^^^ y) : Nat) : Int) = 4 * (c : Int) + ((r ^^^ y : Nat) : Int) := by push_cast; omega
          rw [e0] at D
          have HDD := Lib.hid D
          clear D e0 hcc
          generalize r ^^^ y = z at *
          go_wp2_with fail
          refine CP.out.mono ?_
          rintro e w' ⟨rfl, rfl⟩
          go_wp2_with (first | (at_builtin; refine wpList_app rfl _ _ rfl w.heap.size _ rfl hO2 rfl (by omega) (by omega) ?_; intro v' w1 hO' hbel' hg'))
          go_roundw
          case rel => exact ⟨r + 1, by omega, by go_num, by rw [show 4 * c + (r + 1) = 4 * c + r + 1 by omega, HDD.out]; exact hO', hbel2.trans hbel'⟩
          case measure => simp [intOf]; omega
        · have HR : Hid (4 * c + r = 4 * (c + 1)) := Lib.hid (by omega)
          rw [HR.out] at hO2
          have hri : (4 : Int) ≤ (r : Int) := by omega
          go_wp2
          go_roundw
          case rel => exact ⟨c + 1, by omega, by go_num, hO2, hbel2⟩
          case measure => simp [intOf]; omega
    · go_wp2
      go_ret
      obtain rfl : c = 6 := by omega
      exact ⟨_, rfl, hO, hbel⟩

/-- The permutation of a row. -/
def hexP (l : List Int) : List Int := hexL (l.map Int.toNat)
theorem implPermHex_no (a : Option Addr) (cap : Nat) (l : List Int) (w : World) (hl : l.length ≤ 9223372036854775807) (hr : Reads .i64 w a l) (h : hexB l = false) :
    Calls Try.prog 21 #[.slice a l.length cap] w fun e w' => ∃ v, e = .returned (.tuple #[v, .bool false]) ∧ Owns w.heap.size w' v [] ∧ Below w.heap.size w w' := by
  have hb1 : Below w.heap.size w (w.alloc (.cells #[.slice a l.length cap] 22)) := (Below.refl _ _).alloc (Nat.le_refl _) _
  have C1 := Lib.hid (implHexIn_all a cap l _ hl (hr.kept hb1))
  rw [h] at C1
  have hcell : (w.alloc (.cells #[.slice a l.length cap] 22)).cell? ⟨w.heap.size, 0, none⟩ = some (.slice a l.length cap) := cell_new _ _ _
  clear h
  generalize l.length = N at *
  go_enter Try.func21, Try.ntmps21
  go_wp2_with fail
  refine C1.out.mono ?_
  rintro e w2 ⟨rfl, hs2⟩
  go_wp2_with fail
  go_ret2
  have hb2 := hb1.trans (hs2.mono hb1.size)
  exact ⟨_, rfl, Owns.empty w2 hb2.size, hb2.alloc hb2.size _⟩
theorem implPermHex_ok (a : Option Addr) (cap : Nat) (l : List Int) (w : World) (hl : l.length ≤ 9223372036854775807) (hr : Reads .i64 w a l) (h : hexB l = true) :
    Calls Try.prog 21 #[.slice a l.length cap] w fun e w' => ∃ v, e = .returned (.tuple #[v, .bool true]) ∧ Owns w.heap.size w' v (hexP l) ∧ Below w.heap.size w w' := by
  have hb1 : Below w.heap.size w (w.alloc (.cells #[.slice a l.length cap] 22)) := (Below.refl _ _).alloc (Nat.le_refl _) _
  have C1 := Lib.hid (implHexIn_all a cap l _ hl (hr.kept hb1))
  rw [h] at C1
  unfold hexB at h
  rw [Bool.and_eq_true] at h
  obtain ⟨m, rfl, hm, hd⟩ := rowB_nat h.1
  unfold hexP
  rw [ints_toNat]
  rw [ints_length, hm] at C1 hb1 ⊢
  have hrN := hr.toN
  obtain ⟨b, off, rfl, hbb, -⟩ := hrN 0 (by omega)
  have hcell : (w.alloc (.cells #[.slice (some ⟨b, off, none⟩) 6 cap] 22)).cell? ⟨w.heap.size, 0, none⟩ = some (.slice (some ⟨b, off, none⟩) 6 cap) := cell_new _ _ _
  clear h hr hl
  have hsz : (w.alloc (.cells #[.slice (some ⟨b, off, none⟩) 6 cap] 22)).heap.size = w.heap.size + 1 := by simp
  have HSZ := Lib.hid hsz
  clear hsz
  go_enter Try.func21, Try.ntmps21
  go_wp2_with fail
  refine C1.out.mono ?_
  rintro e w2 ⟨rfl, hs2⟩
  have hb2 := hb1.trans (hs2.mono hb1.size)
  have hl2 : w.heap.size < w2.heap.size := by have := hs2.size; have := HSZ.out; omega
  have hc2 : w2.cell? ⟨w.heap.size, 0, none⟩ = some (.slice (some ⟨b, off, none⟩) 6 cap) := by rw [hs2.cell (p := ⟨w.heap.size, 0, none⟩) (by have := HSZ.out; show w.heap.size < _; omega)]; exact hcell
  have CP := Lib.hid (permOfHex_any w.heap.size b off cap m w2 hm hd hl2 hc2 (hrN.kept hb2))
  have hmf : ∀ (fn : Fn) (first cap : Array Value) (w : World), (Instr.makeFunc fn first cap).run Try.prog w = .ok (.func fn first cap) w := fun _ _ _ _ => rfl
  clear hc2 hm hd
  go_wp2_with fail
  refine CP.out.mono ?_
  rintro e w3 ⟨v3, rfl, hO3, hs3⟩
  go_wp2_with fail
  go_ret2
  exact ⟨_, rfl, hO3.mono hb2.size, hb2.trans (hs3.mono hb2.size)⟩

theorem specPermHex_no (a : Option Addr) (cap : Nat) (l : List Int) (w : World) (hl : l.length ≤ 9223372036854775807) (hr : Reads .i64 w a l) (h : hexB l = false) :
    Calls Try.prog 19 #[.slice a l.length cap] w fun e w' => ∃ v, e = .returned (.tuple #[v, .bool false]) ∧ Owns w.heap.size w' v [] ∧ Below w.heap.size w w' := by
  have hb1 : Below w.heap.size w (w.alloc (.cells #[] 3)) := (Below.refl _ _).alloc (Nat.le_refl _) _
  have hO0 := Owns.empty w (Nat.le_refl w.heap.size)
  have C1 := Lib.hid (specHexIn_all a cap l _ hl (hr.kept hb1))
  rw [h] at C1
  clear h
  go_enter Try.func19, Try.ntmps19
  go_wp2_with fail
  refine C1.out.mono ?_
  rintro e w2 ⟨rfl, hs2⟩
  go_wp2_with fail
  go_ret2
  exact ⟨_, rfl, hO0.kept hs2, hb1.trans (hs2.mono hb1.size)⟩
theorem specPermHex_all (a : Option Addr) (cap : Nat) (l : List Int) (w : World) (hr : Reads .i64 w a l) (h : hexB l = true) :
    Calls Try.prog 19 #[.slice a l.length cap] w fun e w' => ∃ v, e = .returned (.tuple #[v, .bool true]) ∧ Owns w.heap.size w' v (hexP l) ∧ Below w.heap.size w w' := by
  unfold hexB at h
  rw [Bool.and_eq_true] at h
  obtain ⟨m, rfl, hm, hd⟩ := rowB_nat h.1
  unfold hexP
  rw [ints_toNat] at h ⊢
  rw [ints_length, hm]
  exact specPermHex_ok a cap m w hm hd hr.toN h.2

end Go.Proofs.Ytldjlabllhnpjaa
