/- Contracts of the draws of words. -/
import Derived.Test.YteedbejlbjfkgaaGreatWRd
import Derived.Test.YteedbejlbjfkgaaGreatWCdS
set_option linter.unusedVariables false
namespace Go.Proofs.YteedbejlbjfkgaaGreat
open Go.RowKit Res

theorem grown_of_below {w w' : World} (h : Below w.heap.size w w') (row : Option Nat) : w.grownBy w' row := ⟨h.os, h.tape, h.output, h.size, fun k hk _ => h.block k hk⟩
theorem grown_trans {a b c : World} {row : Option Nat} (h : a.grownBy b row) (k : b.grownBy c row) : a.grownBy c row :=
  ⟨k.os.trans h.os, k.tape.trans h.tape, k.output.trans h.output, Nat.le_trans h.size k.size, fun i hi hne => (k.block i (Nat.lt_of_lt_of_le hi h.size) hne).trans (h.block i hi hne)⟩

theorem Reader.lt {w : World} {r K : Nat} (h : Reader w r K) : r < w.heap.size := by
  obtain ⟨a, l, cap, p, hh, -⟩ := h
  exact (Array.getElem?_eq_some_iff.1 hh).1
theorem Reader.drew {w : World} {r K : Nat} (h : Reader w r K) : Reader w.drew r K := h
theorem grown_drew {w w' : World} {row : Option Nat} (h : w.drew.grownBy w' row) : w.grownBy w' row := ⟨h.os, h.tape, h.output, h.size, fun k hk hne => h.block k hk hne⟩
theorem Reader.mono {w : World} {r K K' : Nat} (h : Reader w r K) (hK : K ≤ K') : Reader w r K' := by
  obtain ⟨a, l, cap, p, hh, hp, hrest⟩ := h
  exact ⟨a, l, cap, p, hh, by omega, hrest⟩
theorem Reader.kept {w w' : World} {r K : Nat} (h : Reader w r K) (hb : Below w.heap.size w w') : Reader w' r K := by
  have hlt := h.lt
  obtain ⟨a, l, cap, p, hh, hp, hl, hc, hby⟩ := h
  refine ⟨a, l, cap, p, by rw [hb.block r hlt]; exact hh, hp, hl, fun i hi => ?_, hby⟩
  obtain ⟨b, off, ha, hbr, hcell⟩ := hc i hi
  exact ⟨b, off, ha, hbr, by rw [hb.cell (p := ⟨b, off + i, none⟩) (by show b < _; omega)]; exact hcell⟩

/-- A draw of one int out of a reader. -/
def DrewR (p : Int → Prop) (r K : Nat) (w : World) (e : Ending) (w' : World) : Prop :=
  ∃ k : Int, e = .returned (.int .i64 k) ∧ p k ∧ Reader w' r K ∧ w.grownBy w' (some r)

theorem l91Code_any (r K : Nat) (w : World) (hR : Reader w r K) (hK : K ≤ 900000) :
    Calls Tryz.prog 28 #[.pointer (some ⟨r, 0, none⟩)] w (DrewR (fun k => 0 ≤ k ∧ k ≤ 16777215) r (K + 2) w) := by
  go_enter Tryz.func28, Tryz.ntmps28
  go_wp2_with fail
  refine (pick_any _ _ _ _ hR (by omega) (by omega) (by omega)).mono ?_
  rintro e w1 ⟨k1, rfl, hk10, hk11, hR1, hg1, hz1⟩
  go_wp2_with fail
  refine (pick_any _ _ _ _ hR1 (by omega) (by omega) (by omega)).mono ?_
  rintro e w2 ⟨k2, rfl, hk20, hk21, hR2, hg2, hz2⟩
  go_wp2_with fail
  refine (l3Of_any _ _ (by omega) (by omega)).mono ?_
  rintro e w3 ⟨rfl, hs3⟩
  have hc := code_lt (m := (k1 + 64 * k2).toNat) (by omega)
  go_wp2_with fail
  go_ret
  exact ⟨_, rfl, ⟨by omega, by omega⟩, hR2.kept hs3, grown_trans (grown_trans hg1 hg2) (grown_of_below hs3 _)⟩

theorem l91Word_any (r K : Nat) (w : World) (hR : Reader w r K) (hK : K ≤ 800000) :
    Calls Tryz.prog 50 #[.pointer (some ⟨r, 0, none⟩)] w (DrewR (fun k => -1 ≤ k ∧ k ≤ 16777216) r (K + 9) w) := by
  go_enter Tryz.func50, Tryz.ntmps50
  go_wp2_with fail
  refine (pick_any _ _ _ _ hR (by omega) (by omega) (by omega)).mono ?_
  rintro e w1 ⟨k1, rfl, hk10, hk11, hR1, hg1, hz1⟩
  by_cases h0 : k1 = 0
  · subst h0
    go_wp2_with fail
    go_ret
    exact ⟨_, rfl, ⟨by omega, by omega⟩, hR1.mono (by omega), hg1⟩
  by_cases h1 : k1 = 1
  · subst h1
    go_wp2_with fail
    go_ret
    exact ⟨_, rfl, ⟨by omega, by omega⟩, hR1.mono (by omega), hg1⟩
  have e0 : (k1 == 0) = false := by rw [beq_eq_false_iff_ne]; exact h0
  have e1 : (k1 == 1) = false := by rw [beq_eq_false_iff_ne]; exact h1
  by_cases h2 : k1 = 2
  · subst h2
    go_wp2_with fail
    refine (pick_any _ _ _ _ hR1 (by omega) (by omega) (by omega)).mono ?_
    rintro e w2 ⟨k2, rfl, hk20, hk21, hR2, hg2, hz2⟩
    go_wp2_with fail
    refine (pick_any _ _ _ _ hR2 (by omega) (by omega) (by omega)).mono ?_
    rintro e w3 ⟨k3, rfl, hk30, hk31, hR3, hg3, hz3⟩
    go_wp2_with fail
    refine (pick_any _ _ _ _ hR3 (by omega) (by omega) (by omega)).mono ?_
    rintro e w4 ⟨k4, rfl, hk40, hk41, hR4, hg4, hz4⟩
    go_wp2_with fail
    go_ret
    exact ⟨_, rfl, ⟨by omega, by omega⟩, hR4.mono (by omega), grown_trans (grown_trans (grown_trans hg1 hg2) hg3) hg4⟩
  have e2 : (k1 == 2) = false := by rw [beq_eq_false_iff_ne]; exact h2
  go_wp2_with fail
  refine (l91Code_any _ _ _ hR1 (by omega)).mono ?_
  rintro e w2 ⟨k2, rfl, ⟨hk20, hk21⟩, hR2, hg2⟩
  go_wp2_with fail
  refine (pick_any _ _ _ _ hR2 (by omega) (by omega) (by omega)).mono ?_
  rintro e w3 ⟨k3, rfl, hk30, hk31, hR3, hg3, hz3⟩
  have hg13 := grown_trans (grown_trans hg1 hg2) hg3
  obtain ⟨n2, rfl⟩ := Int.eq_ofNat_of_zero_le hk20
  clear e0 e1 e2 h0 h1 h2 hk10 hk11
  go_wp2_with fail
  go_loopw [3, 5] (fun s x wr => ∃ (i n : Nat), (i : Int) ≤ k3 ∧ x = .int .i64 (i : Int) ∧ s = .int .i64 (n : Int) ∧ n < 16777216 ∧ Reader wr r (K + 1 + 2 + 1 + i) ∧ w.grownBy wr (some r))
    (fun _ x _ => (6 - (intOf x).toNat))
  case atStart => exact ⟨0, n2, by omega, rfl, rfl, by omega, hR3, hg13⟩
  case round =>
    obtain ⟨i, n, hi, rfl, rfl, hn, hRi, hgi⟩ := hrel
    by_cases hlt : (i : Int) < k3
    · go_wp2_with fail
      refine (pick_any _ _ _ _ hRi (by omega) (by omega) (by omega)).mono ?_
      rintro e w4 ⟨k4, rfl, hk40, hk41, hR4, hg4, hz4⟩
      obtain ⟨p, rfl⟩ := Int.eq_ofNat_of_zero_le hk40
      have hx := Nat.xor_lt_two_pow (n := 24) (x := n) (y := 2 ^ p) (by omega) (Nat.pow_lt_pow_right (by omega) (by omega))
      go_wp2_with fail
      go_roundw
      case rel =>
        exact ⟨i + 1, n ^^^ 2 ^ p, by omega, by go_num, by rw [wrap64_pow p (by omega), i64_xor _ _ (by omega) (Nat.lt_of_lt_of_le (Nat.pow_lt_pow_right (by omega) (show p < 24 by omega)) (by omega))], by omega, hR4, grown_trans hgi hg4⟩
      case measure => simp [intOf]; omega
    · go_wp2_with fail
      go_ret
      exact ⟨_, rfl, ⟨by omega, by omega⟩, hRi.mono (by omega), hgi⟩

end Go.Proofs.YteedbejlbjfkgaaGreat
