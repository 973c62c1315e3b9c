/- Contracts of LineMove and LinePerm. -/
import Derived.Test.YteedbejlbjfkgaaWLn
set_option linter.unusedVariables false
namespace Go.Proofs.Yteedbejlbjfkgaa
open Go.RowKit Res

theorem mOk_bd {a b c d : Int} (h : mOk a b c d = true) : (0 ≤ a ∧ a ≤ 22) ∧ (0 ≤ b ∧ b ≤ 22) ∧ (0 ≤ c ∧ c ≤ 22) ∧ (0 ≤ d ∧ d ≤ 22) ∧ sq ((a * d - b * c) % 23) = true := by
  unfold mOk at h
  simp only [Bool.and_eq_true] at h
  obtain ⟨⟨⟨⟨h1, h2⟩, h3⟩, h4⟩, h5⟩ := h
  exact ⟨inB_iff.1 h1, inB_iff.1 h2, inB_iff.1 h3, inB_iff.1 h4, h5⟩

/-- All places moved. -/
def lp (a b c d : Nat) : List Nat := (List.range 24).map (lm a b c d)
def lpTo (a b c d k : Nat) : List Nat := (List.range k).map (lm a b c d)
theorem lpTo_succ (a b c d k : Nat) : lpTo a b c d (k + 1) = lpTo a b c d k ++ [lm a b c d k] := by simp [lpTo, List.range_succ]
theorem lpTo_length (a b c d k : Nat) : (lpTo a b c d k).length = k := by simp [lpTo]



theorem implLinePerm_no (a b c d : Int) (w : World) (h : mOk a b c d = false) :
    Calls Try.prog 8 #[.int .i64 a, .int .i64 b, .int .i64 c, .int .i64 d] w fun e w' => ∃ v, e = .returned (.tuple #[v, .bool false]) ∧ Owns w.heap.size w' v [] ∧ Below w.heap.size w w' := by
  go_enter Try.func8, Try.ntmps8
  go_wp2_with fail
  refine (implMoveOk_any _ _ _ _ _).mono ?_
  rintro e w' ⟨rfl, rfl⟩
  go_wp2_with fail
  go_ret2
  exact ⟨_, rfl, Owns.empty w (Nat.le_refl _), (Below.refl _ _).alloc (Nat.le_refl _) _⟩

theorem implLinePerm_ok (a b c d : Int) (w : World) (h : mOk a b c d = true) :
    Calls Try.prog 8 #[.int .i64 a, .int .i64 b, .int .i64 c, .int .i64 d] w fun e w' => ∃ v, e = .returned (.tuple #[v, .bool true]) ∧ Owns w.heap.size w' v (ints (lp a.toNat b.toNat c.toNat d.toNat)) ∧ Below w.heap.size w w' := by
  obtain ⟨⟨a0, a1⟩, ⟨b0, b1⟩, ⟨c0, c1⟩, ⟨d0, d1⟩, -⟩ := mOk_bd h
  go_enter Try.func8, Try.ntmps8
  go_wp2_with fail
  refine (implMoveOk_any _ _ _ _ _).mono ?_
  rintro e w' ⟨rfl, rfl⟩
  go_wp2_with fail
  go_loopw [10, 20] (fun v x wr => ∃ k : Nat, k ≤ 24 ∧ x = .int .i64 (k : Int) ∧ Owns w.heap.size wr v (ints (lpTo a.toNat b.toNat c.toNat d.toNat k)) ∧ Below w.heap.size w wr)
    (fun _ x _ => (24 - (intOf x).toNat))
  case atStart => exact ⟨0, by omega, rfl, Owns.empty w (Nat.le_refl _), (Below.refl _ _).alloc (Nat.le_refl _) _⟩
  case round =>
    obtain ⟨k, hk, rfl, hO, hbel⟩ := hrel
    have hlen := lpTo_length a.toNat b.toNat c.toNat d.toNat k
    rw [← ints_length] at hlen
    have hle := Nat.le_of_eq hlen
    have hst := Lib.hid (lpTo_succ a.toNat b.toNat c.toNat d.toNat k)
    have hsz := hbel.size
    clear hlen
    by_cases hlt : k < 24
    · have hlt2 : (k : Int) < 24 := by omega
      have hlt3 : (k : Int) ≤ 23 := by omega
      go_wp2_with (first | (go_at_call 32; refine (implLineMove0_any _ _ _ _ _ _ a0 a1 b0 b1 c0 c1 d0 d1 (by omega) (by omega)).mono ?_; rintro e w' ⟨rfl, rfl⟩) | (at_builtin; refine wpList_app rfl _ _ rfl w.heap.size _ rfl hO rfl (by omega) (by omega) ?_; intro v' w1 hO' hbel' hg'))
      go_roundw
      case rel => exact ⟨k + 1, by omega, by go_num, by rw [hst.out, ints_append]; exact hO', hbel.trans hbel'⟩
      case measure => simp [intOf]; omega
    · go_wp2
      go_ret2
      obtain rfl : k = 24 := by omega
      exact ⟨_, rfl, hO, hbel⟩



theorem specLinePerm_no (a b c d : Int) (w : World) (h : mOk a b c d = false) :
    Calls Try.prog 9 #[.int .i64 a, .int .i64 b, .int .i64 c, .int .i64 d] w fun e w' => ∃ v, e = .returned (.tuple #[v, .bool false]) ∧ Owns w.heap.size w' v [] ∧ Below w.heap.size w w' := by
  go_enter Try.func9, Try.ntmps9
  go_wp2_with fail
  refine (l8Given_any _ _ _ _ _).mono ?_
  rintro e w' ⟨rfl, rfl⟩
  go_wp2_with fail
  go_ret2
  exact ⟨_, rfl, Owns.empty w (Nat.le_refl _), (Below.refl _ _).alloc (Nat.le_refl _) _⟩

theorem specLinePerm_ok (a b c d : Int) (w : World) (h : mOk a b c d = true) :
    Calls Try.prog 9 #[.int .i64 a, .int .i64 b, .int .i64 c, .int .i64 d] w fun e w' => ∃ v, e = .returned (.tuple #[v, .bool true]) ∧ Owns w.heap.size w' v (ints (lp a.toNat b.toNat c.toNat d.toNat)) ∧ Below w.heap.size w w' := by
  obtain ⟨⟨a0, a1⟩, ⟨b0, b1⟩, ⟨c0, c1⟩, ⟨d0, d1⟩, -⟩ := mOk_bd h
  go_enter Try.func9, Try.ntmps9
  go_wp2_with fail
  refine (l8Given_any _ _ _ _ _).mono ?_
  rintro e w' ⟨rfl, rfl⟩
  go_wp2_with fail
  go_loopw [10, 11] (fun v x wr => ∃ k : Nat, k ≤ 24 ∧ x = .int .i64 (k : Int) ∧ Owns w.heap.size wr v (ints (lpTo a.toNat b.toNat c.toNat d.toNat k)) ∧ Below w.heap.size w wr)
    (fun _ x _ => (24 - (intOf x).toNat))
  case atStart => exact ⟨0, by omega, rfl, Owns.empty w (Nat.le_refl _), (Below.refl _ _).alloc (Nat.le_refl _) _⟩
  case round =>
    obtain ⟨k, hk, rfl, hO, hbel⟩ := hrel
    have hlen := lpTo_length a.toNat b.toNat c.toNat d.toNat k
    rw [← ints_length] at hlen
    have hle := Nat.le_of_eq hlen
    have hst := Lib.hid (lpTo_succ a.toNat b.toNat c.toNat d.toNat k)
    have hsz := hbel.size
    clear hlen
    by_cases hlt : k < 24
    · have hlt2 : (k : Int) < 24 := by omega
      have hlt3 : (k : Int) ≤ 23 := by omega
      go_wp2_with (first | (go_at_call 34; refine (l8Move_any _ _ _ _ _ _ a0 a1 b0 b1 c0 c1 d0 d1 (by omega) (by omega)).mono ?_; rintro e w' ⟨rfl, rfl⟩) | (at_builtin; refine wpList_app rfl _ _ rfl w.heap.size _ rfl hO rfl (by omega) (by omega) ?_; intro v' w1 hO' hbel' hg'))
      go_roundw
      case rel => exact ⟨k + 1, by omega, by go_num, by rw [hst.out, ints_append]; exact hO', hbel.trans hbel'⟩
      case measure => simp [intOf]; omega
    · go_wp2
      go_ret2
      obtain rfl : k = 24 := by omega
      exact ⟨_, rfl, hO, hbel⟩

end Go.Proofs.Yteedbejlbjfkgaa
