/- Contracts of the draws of moves of the line and of words of the line. -/
import Derived.Test.YteedbejlbjfkgaaWRdW
import Derived.Test.YteedbejlbjfkgaaWDrawRes
import Derived.Test.YteedbejlbjfkgaaWLm
set_option linter.unusedVariables false
namespace Go.Proofs.Yteedbejlbjfkgaa
open Go.RowKit Res

/-- Four numbers of a move. -/
def DrewMove (r K : Nat) (w : World) (e : Ending) (w' : World) : Prop :=
  ∃ a b c d : Int, e = .returned (.tuple #[.int .i64 a, .int .i64 b, .int .i64 c, .int .i64 d]) ∧ (0 ≤ a ∧ a ≤ 22) ∧ (0 ≤ b ∧ b ≤ 22) ∧ (0 ≤ c ∧ c ≤ 22) ∧ (0 ≤ d ∧ d ≤ 100) ∧ Reader w' r K ∧ w.grownBy w' (some r)

theorem l92Move_any (r K : Nat) (w : World) (hR0 : Reader w r K) (hK : K ≤ 800000) :
    Calls Try.prog 29 #[.pointer (some ⟨r, 0, none⟩)] w (DrewMove r (K + 6) w) := by
  go_enter Try.func29, Try.ntmps29
  go_wp2_with fail
  refine (pick_any _ _ _ _ hR0 (by omega) (by omega) (by omega)).mono ?_
  rintro e w1 ⟨n1, rfl, hn1, hm1, hR1, hg1, hz1⟩
  go_wp2_with fail
  refine (pick_any _ _ _ _ hR1 (by omega) (by omega) (by omega)).mono ?_
  rintro e w2 ⟨n2, rfl, hn2, hm2, hR2, hg2, hz2⟩
  go_wp2_with fail
  refine (pick_any _ _ _ _ hR2 (by omega) (by omega) (by omega)).mono ?_
  rintro e w3 ⟨n3, rfl, hn3, hm3, hR3, hg3, hz3⟩
  go_wp2_with fail
  refine (pick_any _ _ _ _ hR3 (by omega) (by omega) (by omega)).mono ?_
  rintro e w4 ⟨n4, rfl, hn4, hm4, hR4, hg4, hz4⟩
  go_wp2_with fail
  refine (pick_any _ _ _ _ hR4 (by omega) (by omega) (by omega)).mono ?_
  rintro e w5 ⟨n5, rfl, hn5, hm5, hR5, hg5, hz5⟩
  have hg15 := grown_trans (grown_trans (grown_trans (grown_trans hg1 hg2) hg3) hg4) hg5
  by_cases hlt : 0 < n5
  · have hp := mul_bd 22 22 hn2 (show n2 ≤ 22 by omega) hn3 (show n3 ≤ 22 by omega)
    go_wp2_with fail
    refine (l8Turned_any _ _ (by omega) (by omega)).mono ?_
    rintro e w' ⟨rfl, rfl⟩
    have hi := (invN_spec (n := (1 + n1).toNat) (by omega) (by omega)).2
    have hq := mul_bd 485 22 (a := n2 * n3 + 1) (b := ((invN (1 + n1).toNat : Nat) : Int)) (by omega) (by omega) (by omega) (by omega)
    generalize ((invN (1 + n1).toNat : Nat) : Int) = y at *
    go_wp2_with fail
    refine (l8Mod_any _ _ (by omega) (by omega)).mono ?_
    rintro e w' ⟨rfl, rfl⟩
    go_wp2_with fail
    refine (pick_any _ _ _ _ hR5 (by omega) (by omega) (by omega)).mono ?_
    rintro e w6 ⟨n6, rfl, hn6, hm6, hR6, hg6, hz6⟩
    go_wp2_with fail
    refine bodyPost_ret (v := .tuple #[.int .i64 (1 + n1), .int .i64 n2, .int .i64 n3, .int .i64 ((n2 * n3 + 1) * y % 23 + n6 / 19 * 23)]) (by simp [results, Try.results29, go_sem]) rfl ?_
    exact ⟨_, _, _, _, rfl, by omega, by omega, by omega, by omega, hR6, grown_trans hg15 hg6⟩
  · go_wp2_with fail
    refine (pick_any _ _ _ _ hR5 (by omega) (by omega) (by omega)).mono ?_
    rintro e w6 ⟨n6, rfl, hn6, hm6, hR6, hg6, hz6⟩
    go_wp2_with fail
    refine bodyPost_ret (v := .tuple #[.int .i64 (1 + n1), .int .i64 n2, .int .i64 n3, .int .i64 (n4 + n6 / 19 * 23)]) (by simp [results, Try.results29, go_sem]) rfl ?_
    exact ⟨_, _, _, _, rfl, by omega, by omega, by omega, by omega, hR6, grown_trans hg15 hg6⟩

/-- Four numbers of a move, and nothing else. -/
def DrewMove4 (w : World) (e : Ending) (w' : World) : Prop :=
  ∃ a b c d : Int, e = .returned (.tuple #[.int .i64 a, .int .i64 b, .int .i64 c, .int .i64 d]) ∧ Below w.heap.size w w'

theorem DrawLinePerm_any (a : Option Addr) (cap : Nat) (l : List Int) (w : World) (hc : Code w a l cap) :
    Calls Try.prog 7 #[.slice a l.length cap] w (DrewMove4 w) := by
  go_enter Try.func7, Try.ntmps7
  go_wp2_with fail
  refine (l6Open_any _ _ l _ hc.1 hc.2.1 hc.2.2.1 hc.2.2.2).mono ?_
  rintro e w1 ⟨rfl, hR1, hb1, hz1⟩
  go_wp2_with fail
  refine (l92Move_any _ _ _ hR1 (by omega)).mono ?_
  rintro e w2 ⟨x1, x2, x3, x4, rfl, h1, h2, h3, h4, hR2, hg2⟩
  go_wp2_with fail
  refine bodyPost_ret (v := .tuple #[.int .i64 x1, .int .i64 x2, .int .i64 x3, .int .i64 x4]) (by simp [results, Try.results7, go_sem]) rfl ?_
  exact ⟨_, _, _, _, rfl, below_picked hb1 hg2 (by omega) (Nat.le_refl _)⟩

end Go.Proofs.Yteedbejlbjfkgaa
