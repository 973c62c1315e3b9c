/- Contracts of LatticeMove. -/
import Derived.Test.YteedbejlbjfkgaaGreatWPm
import Derived.Test.YteedbejlbjfkgaaGreatWVec
import Derived.Test.YteedbejlbjfkgaaGreatMk
import Derived.StillTailTactics
set_option linter.unusedVariables false
namespace Go.Proofs.YteedbejlbjfkgaaGreat
open Go.RowKit Res

/-- The numbers moved, the first k of them. -/
def mvTo (l p : List Int) : Nat → List Int
  | 0 => List.replicate 24 0
  | k + 1 => (mvTo l p k).set (p.getD k 0).toNat (l.getD k 0)
def moveV (l p : List Int) : List Int := mvTo l p 24
theorem mvTo_length (l p : List Int) (k : Nat) : (mvTo l p k).length = 24 := by
  induction k with
  | zero => simp [mvTo]
  | succ k ih => simp [mvTo, ih]
/-- May LatticeMove answer? -/
def moveOk (l p : List Int) : Bool := vecOk l && permOk p

theorem permOk_facts {p : List Int} (h : permOk p = true) : p.length = 24 ∧ okTo p 24 := by
  unfold permOk at h
  rw [Bool.and_eq_true, beq_iff_eq] at h
  refine ⟨h.1, ?_⟩
  have := (okTo_iff p).2 h.2
  rw [h.1] at this
  exact this
theorem vecOk_length' {l : List Int} (h : vecOk l = true) : l.length = 24 := by
  unfold vecOk at h
  rw [Bool.and_eq_true, beq_iff_eq] at h
  exact h.2

theorem specLatticeMove_no (a b : Option Addr) (ca cb : Nat) (l p : List Int) (w : World) (hl : l.length ≤ 9223372036854775807) (hp : p.length ≤ 9223372036854775807) (hr : Reads .i64 w a l) (hs : Reads .i64 w b p) (h : moveOk l p = false) :
    Calls Tryz.prog 6 #[.slice a l.length ca, .slice b p.length cb] w fun e w' => ∃ v, e = .returned (.tuple #[v, .bool false]) ∧ Owns w.heap.size w' v [] ∧ Below w.heap.size w w' := by
  unfold moveOk at h
  go_enter Tryz.func6, Tryz.ntmps6
  go_wp2_with fail
  refine (specVectorValid_any _ _ _ _ hl hr).mono ?_
  rintro e w' ⟨rfl, rfl⟩
  cases h1 : vecOk l
  · go_wp2_with fail
    go_ret2
    exact ⟨_, rfl, Owns.empty w (Nat.le_refl _), (Below.refl _ _).alloc (Nat.le_refl _) _⟩
  · rw [h1, Bool.true_and] at h
    go_wp2_with fail
    refine (specPermValid_any _ _ _ _ hp hs).mono ?_
    rintro e w' ⟨rfl, rfl⟩
    go_wp2_with fail
    go_ret2
    exact ⟨_, rfl, Owns.empty w (Nat.le_refl _), (Below.refl _ _).alloc (Nat.le_refl _) _⟩

theorem implLatticeMove_no (a b : Option Addr) (ca cb : Nat) (l p : List Int) (w : World) (hl : l.length ≤ 9223372036854775807) (hp : p.length ≤ 9223372036854775807) (hr : Reads .i64 w a l) (hs : Reads .i64 w b p) (h : moveOk l p = false) :
    Calls Tryz.prog 5 #[.slice a l.length ca, .slice b p.length cb] w fun e w' => ∃ v, e = .returned (.tuple #[v, .bool false]) ∧ Owns w.heap.size w' v [] ∧ Below w.heap.size w w' := by
  unfold moveOk at h
  go_enter Tryz.func5, Tryz.ntmps5
  go_wp2_with fail
  refine (implVectorValid_any _ _ _ _ hl hr).mono ?_
  rintro e w' ⟨rfl, rfl⟩
  cases h1 : vecOk l
  · go_wp2_with fail
    go_ret2
    exact ⟨_, rfl, Owns.empty w (Nat.le_refl _), (Below.refl _ _).alloc (Nat.le_refl _) _⟩
  · rw [h1, Bool.true_and] at h
    go_wp2_with fail
    refine (implPermValid_any _ _ _ _ hp hs).mono ?_
    rintro e w' ⟨rfl, rfl⟩
    go_wp2_with fail
    go_ret2
    exact ⟨_, rfl, Owns.empty w (Nat.le_refl _), (Below.refl _ _).alloc (Nat.le_refl _) _⟩

theorem implLatticeMove_ok (a b : Option Addr) (ca cb : Nat) (l p : List Int) (w : World) (hr : Reads .i64 w a l) (hs : Reads .i64 w b p) (h : moveOk l p = true) :
    Calls Tryz.prog 5 #[.slice a l.length ca, .slice b p.length cb] w fun e w' => ∃ v, e = .returned (.tuple #[v, .bool true]) ∧ Owns w.heap.size w' v (moveV l p) ∧ Below w.heap.size w w' := by
  unfold moveOk at h
  rw [Bool.and_eq_true] at h
  obtain ⟨h1, h2⟩ := h
  have hll := vecOk_length' h1
  obtain ⟨hpl, hok⟩ := permOk_facts h2
  have C1 := Lib.hid (implVectorValid_any a ca l w (by omega) hr)
  have C2 := Lib.hid (implPermValid_any b cb p w (by omega) hs)
  rw [h1, hll] at C1
  rw [h2, hpl] at C2
  rw [hll, hpl]
  have HL := Lib.hid hll
  have HP := Lib.hid hpl
  clear h1 h2 hll hpl
  go_enter Tryz.func5, Tryz.ntmps5
  go_wp2_with fail
  refine (C1.out).mono ?_
  rintro e w' ⟨rfl, rfl⟩
  go_wp2_with fail
  refine (C2.out).mono ?_
  rintro e w' ⟨rfl, rfl⟩
  go_wp2_with (first | (at_make; refine wpList_mk rfl _ _ rfl w.heap.size 24 rfl rfl rfl rfl (by omega) (by omega) ?_; intro w1 hO1 hs1 hz1) | fail)
  go_loopw [21] (fun x wr => ∃ k : Nat, k ≤ 24 ∧ x = .int .i64 (k : Int) ∧ Owns w.heap.size wr (.slice (some ⟨w.heap.size, 0, none⟩) 24 24) (mvTo l p k) ∧ Below w.heap.size w wr)
    (fun x _ => (24 - (intOf x).toNat))
  case atStart => exact ⟨0, by omega, rfl, hO1, hs1⟩
  case round =>
    obtain ⟨k, hk, rfl, hO, hbel⟩ := hrel
    have hlen := mvTo_length l p k
    by_cases hlt : k < 24
    · have hl := HL.out
      have hp := HP.out
      obtain ⟨x, offx, ha, hbx, hcx⟩ := hr k (by omega)
      obtain ⟨y, offy, hb, hby, hcy⟩ := hs k (by omega)
      subst ha
      subst hb
      have hcx' : wr.cell? ⟨x, offx + k, none⟩ = some (.int .i64 (l.getD k 0)) := by rw [hbel.cell (p := ⟨x, offx + k, none⟩) hbx]; exact hcx
      have hcy' : wr.cell? ⟨y, offy + k, none⟩ = some (.int .i64 (p.getD k 0)) := by rw [hbel.cell (p := ⟨y, offy + k, none⟩) hby]; exact hcy
      obtain ⟨q0, q1⟩ := hok.1 k hlt
      have D : Hid (mvTo l p (k + 1) = (mvTo l p k).set (p.getD k 0).toNat (l.getD k 0)) := Lib.hid rfl
      have hki : (k : Int) < 24 := by omega
      clear hcx hcy hl hp
      generalize l.getD k 0 = v at *
      generalize p.getD k 0 = z at *
      obtain ⟨q, rfl⟩ := Int.eq_ofNat_of_zero_le q0
      rw [Int.toNat_natCast] at D
      obtain ⟨hcp, hfp⟩ := hO.at q (by omega)
      have hO' := hO.store q v
      rw [← D.out] at hO'
      have HO := Lib.hid hO'
      clear hO' hO hlen D
      go_wp2_with fail
      go_roundw
      case rel => exact ⟨k + 1, by omega, by go_num, HO.out.1, hbel.setCell (p := ⟨w.heap.size, q, none⟩) (Nat.le_refl _) _⟩
      case measure => simp [intOf]; omega
    · go_wp2
      go_ret2
      obtain rfl : k = 24 := by omega
      exact ⟨_, rfl, hO, hbel⟩

theorem specLatticeMove_ok (a b : Option Addr) (ca cb : Nat) (l p : List Int) (w : World) (hr : Reads .i64 w a l) (hs : Reads .i64 w b p) (h : moveOk l p = true) :
    Calls Tryz.prog 6 #[.slice a l.length ca, .slice b p.length cb] w fun e w' => ∃ v, e = .returned (.tuple #[v, .bool true]) ∧ Owns w.heap.size w' v (moveV l p) ∧ Below w.heap.size w w' := by
  unfold moveOk at h
  rw [Bool.and_eq_true] at h
  obtain ⟨h1, h2⟩ := h
  have hll := vecOk_length' h1
  obtain ⟨hpl, hok⟩ := permOk_facts h2
  have C1 := Lib.hid (specVectorValid_any a ca l w (by omega) hr)
  have C2 := Lib.hid (specPermValid_any b cb p w (by omega) hs)
  rw [h1, hll] at C1
  rw [h2, hpl] at C2
  rw [hll, hpl]
  have HL := Lib.hid hll
  have HP := Lib.hid hpl
  clear h1 h2 hll hpl
  go_enter Tryz.func6, Tryz.ntmps6
  go_wp2_with fail
  refine (C1.out).mono ?_
  rintro e w' ⟨rfl, rfl⟩
  go_wp2_with fail
  refine (C2.out).mono ?_
  rintro e w' ⟨rfl, rfl⟩
  go_wp2_with (first | (at_make; refine wpList_mk rfl _ _ rfl w.heap.size 24 rfl rfl rfl rfl (by omega) (by omega) ?_; intro w1 hO1 hs1 hz1) | fail)
  go_loopw [7] (fun x wr => ∃ k : Nat, k ≤ 24 ∧ x = .int .i64 (k : Int) ∧ Owns w.heap.size wr (.slice (some ⟨w.heap.size, 0, none⟩) 24 24) (mvTo l p k) ∧ Below w.heap.size w wr)
    (fun x _ => (24 - (intOf x).toNat))
  case atStart => exact ⟨0, by omega, rfl, hO1, hs1⟩
  case round =>
    obtain ⟨k, hk, rfl, hO, hbel⟩ := hrel
    have hlen := mvTo_length l p k
    by_cases hlt : k < 24
    · have hl := HL.out
      have hp := HP.out
      obtain ⟨x, offx, ha, hbx, hcx⟩ := hr k (by omega)
      obtain ⟨y, offy, hb, hby, hcy⟩ := hs k (by omega)
      subst ha
      subst hb
      have hcx' : wr.cell? ⟨x, offx + k, none⟩ = some (.int .i64 (l.getD k 0)) := by rw [hbel.cell (p := ⟨x, offx + k, none⟩) hbx]; exact hcx
      have hcy' : wr.cell? ⟨y, offy + k, none⟩ = some (.int .i64 (p.getD k 0)) := by rw [hbel.cell (p := ⟨y, offy + k, none⟩) hby]; exact hcy
      obtain ⟨q0, q1⟩ := hok.1 k hlt
      have D : Hid (mvTo l p (k + 1) = (mvTo l p k).set (p.getD k 0).toNat (l.getD k 0)) := Lib.hid rfl
      have hki : (k : Int) < 24 := by omega
      clear hcx hcy hl hp
      generalize l.getD k 0 = v at *
      generalize p.getD k 0 = z at *
      obtain ⟨q, rfl⟩ := Int.eq_ofNat_of_zero_le q0
      rw [Int.toNat_natCast] at D
      obtain ⟨hcp, hfp⟩ := hO.at q (by omega)
      have hq24 : (q : Int) < 24 := by omega
      have hOd : Owns w.heap.size wr.drew (.slice (some ⟨w.heap.size, 0, none⟩) 24 24) (mvTo l p k) := hO
      have hcd : wr.drew.cell? ⟨w.heap.size, q, none⟩ = some (.int .i64 ((mvTo l p k).getD q 0)) := hcp
      have hfd : wr.drew.frozen? ⟨w.heap.size, q, none⟩ = false := hfp
      have hO' := hOd.store q v
      rw [← D.out] at hO'
      have HO := Lib.hid hO'
      clear hO' hO hOd hlen D
      go_wp2_with fail
      go_still_tail 10, (by kernel_rfl)
      change wpList _ _ _ _ _ wr.drew
      go_wp2
      go_roundw
      case rel => exact ⟨k + 1, by omega, by go_num, HO.out.1, hbel.drew.setCell (p := ⟨w.heap.size, q, none⟩) (Nat.le_refl _) _⟩
      case measure => simp [intOf]; omega
    · go_wp2
      go_ret2
      obtain rfl : k = 24 := by omega
      exact ⟨_, rfl, hO, hbel⟩

end Go.Proofs.YteedbejlbjfkgaaGreat
