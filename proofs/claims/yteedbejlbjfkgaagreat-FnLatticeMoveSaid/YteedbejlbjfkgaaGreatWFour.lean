/- Contracts of LatticeFour. -/
import Derived.Test.YteedbejlbjfkgaaGreatWWd
import Derived.Test.YteedbejlbjfkgaaGreatMk
set_option linter.unusedVariables false
namespace Go.Proofs.YteedbejlbjfkgaaGreat
open Go.RowKit Res

theorem l9Four_any (b : Bool) (w : World) : Calls Tryz.prog 55 #[.bool b] w fun e w' => e = .returned (.int .i64 (if b then -4 else 4)) ∧ w = w' := by
  cases b
  all_goals
    go_enter Tryz.func55, Tryz.ntmps55
    go_wp2
    go_ret
    exact ⟨rfl, rfl⟩
/-- Two fours. -/
def fourL (p q : Nat) (f s : Bool) : List Int := ((List.replicate 24 0).set p (if f then -4 else 4)).set q (if s then -4 else 4)
theorem fourL_length (p q : Nat) (f s : Bool) : (fourL p q f s).length = 24 := by simp [fourL]
/-- May LatticeFour answer? -/
def fourOk (p q : Int) : Bool := inB p 0 23 && inB q 0 23 && !(p == q)

theorem specLatticeFour_no (p q : Int) (f s : Bool) (w : World) (h : fourOk p q = false) :
    Calls Tryz.prog 29 #[.int .i64 p, .int .i64 q, .bool f, .bool s] w fun e w' => ∃ v, e = .returned (.tuple #[v, .bool false]) ∧ Owns w.heap.size w' v [] ∧ Below w.heap.size w w' := by
  unfold fourOk at h
  go_enter Tryz.func29, Tryz.ntmps29
  go_wp2_with fail
  refine (l6In_any _ _ _ _).mono ?_
  rintro e w' ⟨rfl, rfl⟩
  cases h1 : inB p 0 23
  · go_wp2_with fail
    go_ret2
    exact ⟨_, rfl, Owns.empty w (Nat.le_refl _), (Below.refl _ _).alloc (Nat.le_refl _) _⟩
  · go_wp2_with fail
    refine (l6In_any _ _ _ _).mono ?_
    rintro e w' ⟨rfl, rfl⟩
    cases h2 : inB q 0 23
    · go_wp2_with fail
      go_ret2
      exact ⟨_, rfl, Owns.empty w (Nat.le_refl _), (Below.refl _ _).alloc (Nat.le_refl _) _⟩
    · rw [h1, h2] at h
      have h3 : (p == q) = true := by simpa using h
      go_wp2_with fail
      go_ret2
      exact ⟨_, rfl, Owns.empty w (Nat.le_refl _), (Below.refl _ _).alloc (Nat.le_refl _) _⟩

theorem specLatticeFour_ok (p q : Int) (f s : Bool) (w : World) (h : fourOk p q = true) :
    Calls Tryz.prog 29 #[.int .i64 p, .int .i64 q, .bool f, .bool s] w fun e w' => ∃ v, e = .returned (.tuple #[v, .bool true]) ∧ Owns w.heap.size w' v (fourL p.toNat q.toNat f s) ∧ Below w.heap.size w w' := by
  unfold fourOk at h
  rw [Bool.and_eq_true, Bool.and_eq_true] at h
  obtain ⟨⟨h1, h2⟩, h3⟩ := h
  obtain ⟨p0, p1⟩ := inB_iff.1 h1
  obtain ⟨q0, q1⟩ := inB_iff.1 h2
  obtain ⟨p, rfl⟩ := Int.eq_ofNat_of_zero_le p0
  obtain ⟨q, rfl⟩ := Int.eq_ofNat_of_zero_le q0
  have h4 : (((p : Nat) : Int) == (q : Int)) = false := by simpa using h3
  clear h3
  rw [Int.toNat_natCast, Int.toNat_natCast]
  have D1 := fun w => l9Four_any f w
  have D2 := fun w => l9Four_any s w
  unfold fourL
  generalize (if f then -4 else 4 : Int) = x at *
  generalize (if s then -4 else 4 : Int) = y at *
  have C1 := Lib.hid D1
  have C2 := Lib.hid D2
  clear D1 D2
  have hb0 := Below.refl w.heap.size w
  go_enter Tryz.func29, Tryz.ntmps29
  go_wp2_with fail
  refine (l6In_any _ _ _ _).mono ?_
  rintro e w' ⟨rfl, rfl⟩
  go_wp2_with fail
  refine (l6In_any _ _ _ _).mono ?_
  rintro e w' ⟨rfl, rfl⟩
  go_wp2_with (first | (at_make; refine wpList_mk rfl _ _ rfl w.heap.size 24 rfl rfl rfl rfl (by omega) (by omega) ?_; intro w1 hO1 hs1 hz1) | fail)
  refine (C1.out _).mono ?_
  rintro e w' ⟨rfl, rfl⟩
  obtain ⟨hc1, hf1⟩ := hO1.at p (by simp; omega)
  go_wp2_with fail
  have hO2 := (hO1.store p x).1
  have hs2 := hs1.setCell (p := ⟨w.heap.size, p, none⟩) (Nat.le_refl _) (.int .i64 x)
  have HO := Lib.hid hO2
  obtain ⟨hc2, hf2⟩ := hO2.at q (by simp; omega)
  clear hO1 hO2 hc1 hf1
  refine (C2.out _).mono ?_
  rintro e w' ⟨rfl, rfl⟩
  go_wp2_with fail
  go_ret2
  exact ⟨_, rfl, (HO.out.store q y).1, hs2.setCell (p := ⟨w.heap.size, q, none⟩) (Nat.le_refl _) _⟩

end Go.Proofs.YteedbejlbjfkgaaGreat
