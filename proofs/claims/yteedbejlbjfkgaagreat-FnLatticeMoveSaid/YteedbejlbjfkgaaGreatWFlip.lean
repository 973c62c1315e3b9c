/- Contracts of the functions that change signs. -/
import Derived.Test.YteedbejlbjfkgaaGreatWWd
import Derived.Test.YteedbejlbjfkgaaGreatWVec
import Derived.Test.YteedbejlbjfkgaaGreatMk
import Derived.Test.YteedbejlbjfkgaaGreatPl
set_option linter.unusedVariables false
namespace Go.Proofs.YteedbejlbjfkgaaGreat
open Go.RowKit Res

theorem l9Flip_any (a : Option Addr) (cap : Nat) (l : List Int) (n : Int) (w : World) (hl : l.length = 24) (hbd : ∀ i, -100000 ≤ l.getD i 0 ∧ l.getD i 0 ≤ 100000) (hr : Reads .i64 w a l) (hn0 : 0 ≤ n) (hn : n ≤ 16777215) :
    Calls Tryz.prog 53 #[.slice a 24 cap, .int .i64 n] w fun e w' => ∃ v, e = .returned v ∧ Owns w.heap.size w' v (flipV l n.toNat) ∧ Below w.heap.size w w' := by
  obtain ⟨n, rfl⟩ := Int.eq_ofNat_of_zero_le hn0
  rw [Int.toNat_natCast]
  have Hbd := Lib.hid hbd
  clear hbd
  go_enter Tryz.func53, Tryz.ntmps53
  go_wp2
  go_loopw [5, 6] (fun v x wr => ∃ k : Nat, k ≤ 24 ∧ x = .int .i64 (k : Int) ∧ Owns w.heap.size wr v (flipN l n k) ∧ Below w.heap.size w wr)
    (fun _ x _ => (24 - (intOf x).toNat))
  case atStart => exact ⟨0, by omega, rfl, Owns.empty w (Nat.le_refl _), (Below.refl _ _).alloc (Nat.le_refl _) _⟩
  case round =>
    obtain ⟨k, hk, rfl, hO, hbel⟩ := hrel
    have hlen := Nat.le_of_eq (flipN_length l n k)
    have hsz := hbel.size
    by_cases hlt : k < 24
    · have hk2 : (k : Int) < 24 := by omega
      obtain ⟨b, off, ha, hb, hc⟩ := hr k (by omega)
      subst ha
      have hc' : wr.cell? ⟨b, off + k, none⟩ = some (.int .i64 (l.getD k 0)) := by rw [hbel.cell (p := ⟨b, off + k, none⟩) hb]; exact hc
      have hbd := Hbd.out k
      have hst := Lib.hid (flipN_succ l n k)
      generalize l.getD k 0 = y at *
      cases hbit : n.testBit k
      · have hbb : (((bitN n k : Nat) : Int) == 1) = false := bitN_test_false hbit
        rw [hbit, if_neg (by decide)] at hst
        have hbl := bitN_le n k
        clear hbit hc
        go_wp2_with (first | (go_at_call 38; refine (l1Bit_any _ _ _ (by omega) (by omega) (by omega) (by omega)).mono ?_; rintro e w' ⟨rfl, rfl⟩) | (at_builtin; refine wpList_app rfl _ _ rfl w.heap.size _ rfl hO rfl (by omega) (by omega) ?_; intro v' w1 hO' hbel' hg'))
        go_roundw
        case rel => exact ⟨k + 1, by omega, by go_num, by rw [hst.out]; exact hO', hbel.trans hbel'⟩
        case measure => simp [intOf]; omega
      · have hbb : (((bitN n k : Nat) : Int) == 1) = true := bitN_test_true hbit
        rw [hbit, if_pos rfl] at hst
        have hbl := bitN_le n k
        clear hbit hc
        go_wp2_with (first | (go_at_call 38; refine (l1Bit_any _ _ _ (by omega) (by omega) (by omega) (by omega)).mono ?_; rintro e w' ⟨rfl, rfl⟩) | (at_builtin; refine wpList_app rfl _ _ rfl w.heap.size _ rfl hO rfl (by omega) (by omega) ?_; intro v' w1 hO' hbel' hg'))
        go_roundw
        case rel => exact ⟨k + 1, by omega, by go_num, by rw [hst.out]; exact hO', hbel.trans hbel'⟩
        case measure => simp [intOf]; omega
    · go_wp2
      go_ret
      obtain rfl : k = 24 := by omega
      exact ⟨_, rfl, hO, hbel⟩

theorem grown_trans' {a b c : World} {row : Option Nat} (h : a.grownBy b row) (k : b.grownBy c row) : a.grownBy c row :=
  ⟨k.os.trans h.os, k.tape.trans h.tape, k.output.trans h.output, Nat.le_trans h.size k.size, fun i hi hne => (k.block i (Nat.lt_of_lt_of_le hi h.size) hne).trans (h.block i hi hne)⟩

/-- May LatticeFlip answer? -/
def flipOk (l : List Int) (n : Int) : Bool := vecOk l && inB n 0 16777215


end Go.Proofs.YteedbejlbjfkgaaGreat
