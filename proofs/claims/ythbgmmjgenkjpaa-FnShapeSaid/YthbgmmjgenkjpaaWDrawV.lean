/- Contracts of the draws of vectors that need no octad. -/
import Derived.Test.YthbgmmjgenkjpaaWRdW
import Derived.Test.YthbgmmjgenkjpaaWDrawRes
set_option linter.unusedVariables false
namespace Go.Proofs.Ythbgmmjgenkjpaa
open Go.RowKit Res

theorem DrawLatticeFour_any (a : Option Addr) (cap : Nat) (l : List Int) (w : World) (hc : Code w a l cap) :
    Calls Try.prog 14 #[.slice a l.length cap] w fun e w' => ∃ (p q : Int) (f s : Bool), e = .returned (.tuple #[.int .i64 p, .int .i64 q, .bool f, .bool s]) ∧ Below w.heap.size w w' := by
  go_enter Try.func14, Try.ntmps14
  go_wp2_with fail
  refine (l6Open_any _ _ l _ hc.1 hc.2.1 hc.2.2.1 hc.2.2.2).mono ?_
  rintro e w1 ⟨rfl, hR1, hb1, hz1⟩
  go_wp2_with fail
  refine (pick_any _ _ _ _ hR1 (by omega) (by omega) (by omega)).mono ?_
  rintro e w2 ⟨n2, rfl, hn2, hm2, hR2, hg2, hz2⟩
  go_wp2_with fail
  refine (pick_any _ _ _ _ hR2 (by omega) (by omega) (by omega)).mono ?_
  rintro e w3 ⟨n3, rfl, hn3, hm3, hR3, hg3, hz3⟩
  go_wp2_with fail
  refine (pick_any _ _ _ _ hR3 (by omega) (by omega) (by omega)).mono ?_
  rintro e w4 ⟨n4, rfl, hn4, hm4, hR4, hg4, hz4⟩
  go_wp2_with fail
  refine (pick_any _ _ _ _ hR4 (by omega) (by omega) (by omega)).mono ?_
  rintro e w5 ⟨n5, rfl, hn5, hm5, hR5, hg5, hz5⟩
  go_wp2_with fail
  refine bodyPost_ret (v := .tuple #[.int .i64 n2, .int .i64 n3, .bool (n4 == 0), .bool (n5 == 0)]) (by simp [results, Try.results14, go_sem]) rfl ?_
  exact ⟨_, _, _, _, rfl, below_picked hb1 (grown_trans (grown_trans (grown_trans hg2 hg3) hg4) hg5) (by omega) (Nat.le_refl _)⟩

theorem DrawCodeMessage_any (a : Option Addr) (cap : Nat) (l : List Int) (w : World) (hc : Code w a l cap) :
    Calls Try.prog 57 #[.slice a l.length cap] w fun e w' => ∃ n : Int, e = .returned (.int .i64 n) ∧ -1 ≤ n ∧ n ≤ 16777216 ∧ Below w.heap.size w w' := by
  go_enter Try.func57, Try.ntmps57
  go_wp2_with fail
  refine (l6Open_any _ _ l _ hc.1 hc.2.1 hc.2.2.1 hc.2.2.2).mono ?_
  rintro e w1 ⟨rfl, hR1, hb1, hz1⟩
  go_wp2_with fail
  refine (pick_any _ _ _ _ hR1 (by omega) (by omega) (by omega)).mono ?_
  rintro e w2 ⟨n2, rfl, hn2, hm2, hR2, hg2, hz2⟩
  by_cases h0 : n2 = 0
  · have e0 : (n2 == 0) = true := by rw [beq_iff_eq]; exact h0
    clear h0
    go_wp2_with fail
    refine (l91Word_any _ _ _ hR2 (by omega)).mono ?_
    rintro e w3 ⟨k3, rfl, ⟨hk30, hk31⟩, hR3, hg3⟩
    go_wp2_with fail
    go_ret
    exact ⟨_, rfl, hk30, hk31, below_picked hb1 (grown_trans hg2 hg3) (by omega) (Nat.le_refl _)⟩
  · have e0 : (n2 == 0) = false := by rw [beq_eq_false_iff_ne]; exact h0
    clear h0
    go_wp2_with fail
    refine (l91Code_any _ _ _ hR2 (by omega)).mono ?_
    rintro e w3 ⟨k3, rfl, ⟨hk30, hk31⟩, hR3, hg3⟩
    go_wp2_with fail
    go_ret
    exact ⟨_, rfl, by omega, by omega, below_picked hb1 (grown_trans hg2 hg3) (by omega) (Nat.le_refl _)⟩

theorem DrawLatticeThree_any (a : Option Addr) (cap : Nat) (l : List Int) (w : World) (hc : Code w a l cap) :
    Calls Try.prog 29 #[.slice a l.length cap] w fun e w' => ∃ n p : Int, e = .returned (.tuple #[.int .i64 n, .int .i64 p]) ∧ Below w.heap.size w w' := by
  go_enter Try.func29, Try.ntmps29
  go_wp2_with fail
  refine (l6Open_any _ _ l _ hc.1 hc.2.1 hc.2.2.1 hc.2.2.2).mono ?_
  rintro e w1 ⟨rfl, hR1, hb1, hz1⟩
  go_wp2_with fail
  refine (DrawCodeMessage_any _ _ l _ (hc.kept hb1)).mono ?_
  rintro e w2 ⟨k2, rfl, -, -, hs2⟩
  have hR2 := hR1.kept hs2
  have hb2 := hb1.trans (hs2.mono hb1.size)
  go_wp2_with fail
  refine (pick_any _ _ _ _ hR2 (by omega) (by omega) (by omega)).mono ?_
  rintro e w3 ⟨n3, rfl, hn3, hm3, hR3, hg3, hz3⟩
  go_wp2_with fail
  refine bodyPost_ret (v := .tuple #[.int .i64 k2, .int .i64 n3]) (by simp [results, Try.results29, go_sem]) rfl ?_
  exact ⟨_, _, rfl, below_picked hb2 hg3 (hb2.size) (Nat.le_refl _)⟩

end Go.Proofs.Ythbgmmjgenkjpaa
