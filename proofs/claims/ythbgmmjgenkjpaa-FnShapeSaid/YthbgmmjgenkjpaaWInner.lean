/- Contracts of LatticeInner. -/
import Derived.Test.YthbgmmjgenkjpaaWVec
import Derived.Test.YthbgmmjgenkjpaaDotP
import Derived.IntWalk
import Derived.BigQuiet
import Derived.Deep.QuietTactic
set_option linter.unusedVariables false
namespace Go.Proofs.Ythbgmmjgenkjpaa
open Go.RowKit Res

theorem vecOk_get {l : List Int} (h : vecOk l = true) (k : Nat) : -100000 ≤ l.getD k 0 ∧ l.getD k 0 ≤ 100000 := by
  unfold vecOk at h
  rw [Bool.and_eq_true, List.all_eq_true] at h
  by_cases hk : k < l.length
  · have := h.1 l[k] (List.getElem_mem hk)
    rw [inB_iff] at this
    simpa [List.getD, hk] using this
  · simp [List.getD, hk]

theorem vecOk_length {l : List Int} (h : vecOk l = true) : l.length = 24 := by
  unfold vecOk at h
  rw [Bool.and_eq_true] at h
  simpa using h.2

theorem prod_bd {a b : Int} (ha : -100000 ≤ a ∧ a ≤ 100000) (hb : -100000 ≤ b ∧ b ≤ 100000) : -10000000000 ≤ a * b ∧ a * b ≤ 10000000000 := by
  have h1 : (a * b).natAbs ≤ 100000 * 100000 := by
    rw [Int.natAbs_mul]
    exact Nat.mul_le_mul (by omega) (by omega)
  omega

theorem dotTo_bd {l m : List Int} (hl : vecOk l = true) (hm : vecOk m = true) (k : Nat) : -(10000000000 * (k : Int)) ≤ dotTo l m k ∧ dotTo l m k ≤ 10000000000 * (k : Int) := by
  induction k with
  | zero => simp [dotTo]
  | succ k ih =>
    have := prod_bd (vecOk_get hl k) (vecOk_get hm k)
    simp only [dotTo]
    omega

theorem implLatticeInner_no (a b : Option Addr) (ca cb : Nat) (l m : List Int) (w : World) (hl : l.length ≤ 9223372036854775807) (hm : m.length ≤ 9223372036854775807)
    (hr : Reads .i64 w a l) (hs : Reads .i64 w b m) (h : (vecOk l && vecOk m) = false) :
    Calls Try.prog 18 #[.slice a l.length ca, .slice b m.length cb] w fun e w' => e = .returned (.tuple #[.int .i64 0, .bool false]) ∧ w = w' := by
  cases h1 : vecOk l
  · clear h
    go_enter Try.func18, Try.ntmps18
    go_wp2_with fail
    refine (implVectorValid_any _ _ l _ hl hr).mono ?_
    rintro e w' ⟨rfl, rfl⟩
    go_wp2_with fail
    go_ret2
    exact ⟨rfl, rfl⟩
  · have h2 : vecOk m = false := by simpa [h1] using h
    clear h
    go_enter Try.func18, Try.ntmps18
    go_wp2_with fail
    refine (implVectorValid_any _ _ l _ hl hr).mono ?_
    rintro e w' ⟨rfl, rfl⟩
    go_wp2_with fail
    refine (implVectorValid_any _ _ m _ hm hs).mono ?_
    rintro e w' ⟨rfl, rfl⟩
    go_wp2_with fail
    go_ret2
    exact ⟨rfl, rfl⟩

theorem implLatticeInner_ok (a b : Option Addr) (ca cb : Nat) (l m : List Int) (w : World)
    (hr : Reads .i64 w a l) (hs : Reads .i64 w b m) (h1 : vecOk l = true) (h2 : vecOk m = true) :
    Calls Try.prog 18 #[.slice a l.length ca, .slice b m.length cb] w fun e w' => e = .returned (.tuple #[.int .i64 (dotTo l m 24), .bool true]) ∧ Below w.heap.size w w' := by
  have hl := vecOk_length h1
  have hm := vecOk_length h2
  have Hl := Lib.hid hl
  have Hm := Lib.hid hm
  have hll : l.length ≤ 24 := by omega
  have hml : m.length ≤ 24 := by omega
  have hlg : 24 ≤ l.length := by omega
  have hmg : 24 ≤ m.length := by omega
  clear hl hm
  go_enter Try.func18, Try.ntmps18
  go_wp2_with fail
  refine (implVectorValid_any _ _ l _ (by omega) hr).mono ?_
  rintro e w' ⟨rfl, rfl⟩
  go_wp2_with fail
  refine (implVectorValid_any _ _ m _ (by omega) hs).mono ?_
  rintro e w' ⟨rfl, rfl⟩
  go_wp2_with fail
  go_loopw [6, 18] (fun s x wr => ∃ k : Nat, k ≤ 24 ∧ x = .int .i64 (k : Int) ∧ s = .int .i64 (dotTo l m k) ∧ ∃ n, wr = w.drewN n)
    (fun _ x _ => (24 - (intOf x).toNat))
  case atStart => exact ⟨0, by omega, rfl, rfl, 0, rfl⟩
  case round =>
    obtain ⟨k, hk, rfl, rfl, nd, rfl⟩ := hrel
    have hd := dotTo_bd h1 h2 k
    by_cases hlt : k < 24
    · obtain ⟨b1, off1, ha, hb1, hc1⟩ := hr k (by omega)
      obtain ⟨b2, off2, hb, hb2, hc2⟩ := hs k (by omega)
      subst ha
      subst hb
      have hltl : k < l.length := by omega
      have hltm : k < m.length := by omega
      have hi1 : (k : Int) < (l.length : Int) := by omega
      have hi2 : (k : Int) < (m.length : Int) := by omega
      have hp := prod_bd (vecOk_get h1 k) (vecOk_get h2 k)
      have e1 : l.getD k 0 = l[k] := by simp [List.getD, hltl]
      have e2 : m.getD k 0 = m[k] := by simp [List.getD, hltm]
      rw [e1, e2] at hp
      have hst : dotTo l m (k + 1) = dotTo l m k + l[k] * m[k] := by simp only [dotTo, e1, e2]
      have Hst := Lib.hid hst
      have hw1 : IntKind.i64.wrap (l[k] * m[k]) = l[k] * m[k] := IntWalk.i64_in _ (by omega)
      have hw2 : IntKind.i64.wrap (dotTo l m k + l[k] * m[k]) = dotTo l m k + l[k] * m[k] := IntWalk.i64_in _ (by omega)
      clear e1 e2 hst
      go_wp2
      go_quiet (fail)
      clear hw1 hw2
      go_wp2
      go_roundw
      case rel => exact ⟨k + 1, by omega, by go_num, by rw [Hst.out], _, rfl⟩
      case measure => simp [intOf]; omega
    · go_wp2
      go_ret2
      obtain rfl : k = 24 := by omega
      exact ⟨rfl, below_drewN (Below.refl _ _) _⟩

theorem specLatticeInner_no (a b : Option Addr) (ca cb : Nat) (l m : List Int) (w : World) (hl : l.length ≤ 9223372036854775807) (hm : m.length ≤ 9223372036854775807)
    (hr : Reads .i64 w a l) (hs : Reads .i64 w b m) (h : (vecOk l && vecOk m) = false) :
    Calls Try.prog 38 #[.slice a l.length ca, .slice b m.length cb] w fun e w' => e = .returned (.tuple #[.int .i64 0, .bool false]) ∧ w = w' := by
  cases h1 : vecOk l
  · clear h
    go_enter Try.func38, Try.ntmps38
    go_wp2_with fail
    refine (specVectorValid_any _ _ l _ hl hr).mono ?_
    rintro e w' ⟨rfl, rfl⟩
    go_wp2_with fail
    go_ret2
    exact ⟨rfl, rfl⟩
  · have h2 : vecOk m = false := by simpa [h1] using h
    clear h
    go_enter Try.func38, Try.ntmps38
    go_wp2_with fail
    refine (specVectorValid_any _ _ l _ hl hr).mono ?_
    rintro e w' ⟨rfl, rfl⟩
    go_wp2_with fail
    refine (specVectorValid_any _ _ m _ hm hs).mono ?_
    rintro e w' ⟨rfl, rfl⟩
    go_wp2_with fail
    go_ret2
    exact ⟨rfl, rfl⟩

theorem specLatticeInner_ok (a b : Option Addr) (ca cb : Nat) (l m : List Int) (w : World)
    (hr : Reads .i64 w a l) (hs : Reads .i64 w b m) (h1 : vecOk l = true) (h2 : vecOk m = true) :
    Calls Try.prog 38 #[.slice a l.length ca, .slice b m.length cb] w fun e w' => e = .returned (.tuple #[.int .i64 (dotTo l m 24), .bool true]) ∧ Below w.heap.size w w' := by
  have hl := vecOk_length h1
  have hm := vecOk_length h2
  have Hl := Lib.hid hl
  have Hm := Lib.hid hm
  have hll : l.length ≤ 24 := by omega
  have hml : m.length ≤ 24 := by omega
  have hlg : 24 ≤ l.length := by omega
  have hmg : 24 ≤ m.length := by omega
  clear hl hm
  go_enter Try.func38, Try.ntmps38
  go_wp2_with fail
  refine (specVectorValid_any _ _ l _ (by omega) hr).mono ?_
  rintro e w' ⟨rfl, rfl⟩
  go_wp2_with fail
  refine (specVectorValid_any _ _ m _ (by omega) hs).mono ?_
  rintro e w' ⟨rfl, rfl⟩
  go_wp2_with fail
  go_loopw [6, 7] (fun s x wr => ∃ k : Nat, k ≤ 24 ∧ x = .int .i64 (k : Int) ∧ s = .int .i64 (dotTo l m k) ∧ ∃ n, wr = w.drewN n)
    (fun _ x _ => (24 - (intOf x).toNat))
  case atStart => exact ⟨0, by omega, rfl, rfl, 0, rfl⟩
  case round =>
    obtain ⟨k, hk, rfl, rfl, nd, rfl⟩ := hrel
    have hd := dotTo_bd h1 h2 k
    by_cases hlt : k < 24
    · obtain ⟨b1, off1, ha, hb1, hc1⟩ := hr k (by omega)
      obtain ⟨b2, off2, hb, hb2, hc2⟩ := hs k (by omega)
      subst ha
      subst hb
      have hltl : k < l.length := by omega
      have hltm : k < m.length := by omega
      have hi1 : (k : Int) < (l.length : Int) := by omega
      have hi2 : (k : Int) < (m.length : Int) := by omega
      have hp := prod_bd (vecOk_get h1 k) (vecOk_get h2 k)
      have e1 : l.getD k 0 = l[k] := by simp [List.getD, hltl]
      have e2 : m.getD k 0 = m[k] := by simp [List.getD, hltm]
      rw [e1, e2] at hp
      have hst : dotTo l m (k + 1) = dotTo l m k + l[k] * m[k] := by simp only [dotTo, e1, e2]
      have Hst := Lib.hid hst
      have hw1 : IntKind.i64.wrap (l[k] * m[k]) = l[k] * m[k] := IntWalk.i64_in _ (by omega)
      have hw2 : IntKind.i64.wrap (dotTo l m k + l[k] * m[k]) = dotTo l m k + l[k] * m[k] := IntWalk.i64_in _ (by omega)
      clear e1 e2 hst
      go_wp2
      go_quiet (fail)
      clear hw1 hw2
      go_wp2
      go_roundw
      case rel => exact ⟨k + 1, by omega, by go_num, by rw [Hst.out], _, rfl⟩
      case measure => simp [intOf]; omega
    · go_wp2
      go_ret2
      obtain rfl : k = 24 := by omega
      exact ⟨rfl, below_drewN (Below.refl _ _) _⟩

end Go.Proofs.Ythbgmmjgenkjpaa
