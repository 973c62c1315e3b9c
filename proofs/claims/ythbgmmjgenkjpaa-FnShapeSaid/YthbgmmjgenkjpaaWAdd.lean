/- Contracts of LatticeAdd. -/
import Derived.Test.YthbgmmjgenkjpaaWLatInS
import Derived.Test.YthbgmmjgenkjpaaMk
import Derived.Deep.RegionLaw
set_option linter.unusedVariables false
namespace Go.Proofs.Ythbgmmjgenkjpaa
open Go.RowKit Res

/-- Is a list a vector of the lattice? -/
def latOk (l : List Int) : Bool := vecOk l && latB l

theorem implLatticeIn_any (a : Option Addr) (cap : Nat) (l : List Int) (w : World) (hl : l.length ≤ 9223372036854775807) (hr : Reads .i64 w a l) :
    Calls Try.prog 20 #[.slice a l.length cap] w fun e w' => e = .returned (.bool (latOk l)) ∧ Below w.heap.size w w' := by
  unfold latOk
  cases hv : vecOk l
  · refine (implLatticeIn_no a cap l w hl hr hv).mono ?_
    rintro e w' ⟨rfl, rfl⟩
    exact ⟨rfl, Below.refl _ _⟩
  · rw [Bool.true_and]
    exact implLatticeIn_ok a cap l w hr hv
theorem specLatticeIn_any (a : Option Addr) (cap : Nat) (l : List Int) (w : World) (hl : l.length ≤ 9223372036854775807) (hr : Reads .i64 w a l) :
    Calls Try.prog 40 #[.slice a l.length cap] w fun e w' => e = .returned (.bool (latOk l)) ∧ Below w.heap.size w w' := by
  unfold latOk
  cases hv : vecOk l
  · refine (specLatticeIn_no a cap l w hl hr hv).mono ?_
    rintro e w' ⟨rfl, rfl⟩
    exact ⟨rfl, Below.refl _ _⟩
  · rw [Bool.true_and]
    exact specLatticeIn_ok a cap l w hr hv

/-- Sums place by place, the first k. -/
def addTo (l m : List Int) (k : Nat) : List Int := (List.range k).map fun i => l.getD i 0 + m.getD i 0
theorem addTo_succ (l m : List Int) (k : Nat) : addTo l m (k + 1) = addTo l m k ++ [l.getD k 0 + m.getD k 0] := by simp [addTo, List.range_succ]
theorem addTo_length (l m : List Int) (k : Nat) : (addTo l m k).length = k := by simp [addTo]
def addOk (l m : List Int) : Bool := (latOk l && latOk m) && vecOk (addTo l m 24)

theorem checked_any (a : Option Addr) (cap : Nat) (l : List Int) (w : World) (hl : l.length ≤ 9223372036854775807) (hr : Reads .i64 w a l) (hv : vecOk l = true) :
    Calls Try.prog 53 #[.slice a l.length cap] w fun e w' => e = .returned (.tuple #[.slice a l.length cap, .bool true]) ∧ w = w' := by
  go_enter Try.func53, Try.ntmps53
  go_wp2_with fail
  refine (implVectorValid_any _ _ _ _ hl hr).mono ?_
  rintro e w' ⟨rfl, rfl⟩
  go_wp2_with fail
  go_ret2
  exact ⟨rfl, rfl⟩
theorem checked_no (a : Option Addr) (cap : Nat) (l : List Int) (w : World) (hl : l.length ≤ 9223372036854775807) (hr : Reads .i64 w a l) (hv : vecOk l = false) :
    Calls Try.prog 53 #[.slice a l.length cap] w fun e w' => ∃ v, e = .returned (.tuple #[v, .bool false]) ∧ Owns w.heap.size w' v [] ∧ Below w.heap.size w w' := by
  go_enter Try.func53, Try.ntmps53
  go_wp2_with fail
  refine (implVectorValid_any _ _ _ _ hl hr).mono ?_
  rintro e w' ⟨rfl, rfl⟩
  go_wp2_with fail
  go_ret2
  exact ⟨_, rfl, Owns.empty w (Nat.le_refl _), (Below.refl _ _).alloc (Nat.le_refl _) _⟩

theorem implLatticeAdd_ok (a b : Option Addr) (ca cb : Nat) (l m : List Int) (w : World) (hr : Reads .i64 w a l) (hs : Reads .i64 w b m) (h1 : latOk l = true) (h2 : latOk m = true) :
    Calls Try.prog 19 #[.slice a l.length ca, .slice b m.length cb] w fun e w' =>
      (vecOk (addTo l m 24) = true → ∃ v, e = .returned (.tuple #[v, .bool true]) ∧ Owns w.heap.size w' v (addTo l m 24) ∧ Below w.heap.size w w') ∧
      (vecOk (addTo l m 24) = false → ∃ v, e = .returned (.tuple #[v, .bool false]) ∧ Owns w.heap.size w' v [] ∧ Below w.heap.size w w') := by
  have hv1 : vecOk l = true := by unfold latOk at h1; rw [Bool.and_eq_true] at h1; exact h1.1
  have hv2 : vecOk m = true := by unfold latOk at h2; rw [Bool.and_eq_true] at h2; exact h2.1
  obtain ⟨hl, hbl⟩ := vecOk_bd hv1
  obtain ⟨hm, hbm⟩ := vecOk_bd hv2
  have hb1 : Below w.heap.size w (w.alloc (.cells #[] 3)) := (Below.refl _ _).alloc (Nat.le_refl _) _
  have C1 := Lib.hid (implLatticeIn_any a ca l _ (by omega) (hr.kept hb1))
  have C2 := Lib.hid (fun w' (hb : Below w.heap.size w w') => implLatticeIn_any b cb m w' (by omega) (hs.kept hb))
  rw [h1, hl] at C1
  rw [h2, hm] at C2
  rw [hl, hm]
  have HL := Lib.hid hl
  have HM := Lib.hid hm
  have HBL := Lib.hid hbl
  have HBM := Lib.hid hbm
  clear h1 h2 hv1 hv2 hl hm hbl hbm
  have hO0 := Owns.empty w (Nat.le_refl w.heap.size)
  go_enter Try.func19, Try.ntmps19
  go_wp2_with fail
  refine C1.out.mono ?_
  rintro e w2 ⟨rfl, hs2⟩
  have hb2 := hb1.trans (hs2.mono hb1.size)
  go_wp2_with fail
  refine (C2.out _ hb2).mono ?_
  rintro e w3 ⟨rfl, hs3⟩
  have hb3 := hb2.trans (hs3.mono hb2.size)
  have hO3 := (hO0.kept hs2).kept hs3
  go_wp2_with fail
  go_loopw [6, 20] (fun v x wr => ∃ k : Nat, k ≤ 24 ∧ x = .int .i64 (k : Int) ∧ Owns w.heap.size wr v (addTo l m k) ∧ Below w.heap.size w wr)
    (fun _ x _ => (24 - (intOf x).toNat))
  case atStart => exact ⟨0, by omega, rfl, hO3, hb3⟩
  case round =>
    obtain ⟨k, hk, rfl, hO, hbel⟩ := hrel
    have hlen := Nat.le_of_eq (addTo_length l m k)
    have hsz := hbel.size
    by_cases hlt : k < 24
    · have hl := HL.out
      have hm := HM.out
      obtain ⟨x, offx, ha, hbx, hcx⟩ := hr k (by omega)
      obtain ⟨y, offy, hb, hby, hcy⟩ := hs k (by omega)
      subst ha
      subst hb
      have hcx' : wr.cell? ⟨x, offx + k, none⟩ = some (.int .i64 (l.getD k 0)) := by rw [hbel.cell (p := ⟨x, offx + k, none⟩) hbx]; exact hcx
      have hcy' : wr.cell? ⟨y, offy + k, none⟩ = some (.int .i64 (m.getD k 0)) := by rw [hbel.cell (p := ⟨y, offy + k, none⟩) hby]; exact hcy
      have hki : (k : Int) < 24 := by omega
      have D := Lib.hid (addTo_succ l m k)
      have bl := HBL.out k
      have bm := HBM.out k
      clear hcx hcy hl hm
      generalize l.getD k 0 = p at *
      generalize m.getD k 0 = q at *
      have hpq : IntKind.i64.wrap (p + q) = p + q := IntWalk.i64_in _ (by omega)
      have hOd : Owns w.heap.size wr.drew u6 (addTo l m k) := hO
      go_wp2_with fail
      go_region_law (refine step_app rfl (.tmp 23) (.tmp 33) rfl w.heap.size (addTo l m k) (by simp [Act.eval]) (hOd.alloc _) (by simp [Act.eval]) (cell_new _ _ _) (by omega) (by simp; omega) ?_; intro v' w1 hO' hbel')
      all_goals
        go_wp2
        go_roundw
        case rel => exact ⟨k + 1, by omega, by go_num, by rw [D.out]; exact hO', ((hbel.drew).alloc hsz _).trans hbel'⟩
        case measure => simp [intOf]; omega
    · obtain rfl : k = 24 := by omega
      obtain ⟨a6, c6, rfl, hR6, -, -⟩ := hO.shape
      have C3 := Lib.hid (checked_any a6 c6 (addTo l m 24) wr (by omega) hR6)
      have C4 := Lib.hid (checked_no a6 c6 (addTo l m 24) wr (by omega) hR6)
      generalize hLe : addTo l m 24 = L at *
      have HE := Lib.hid hLe
      clear hLe
      cases hv : vecOk L
      · go_wp2_with fail
        refine (C4.out hv).mono ?_
        rintro e w4 ⟨v, rfl, hO4, hs4⟩
        go_wp2_with fail
        go_ret2
        exact ⟨fun h => (by rw [HE.out, hv] at h; cases h), fun _ => ⟨_, rfl, hO4.mono hsz, hbel.trans (hs4.mono hsz)⟩⟩
      · go_wp2_with fail
        refine (C3.out hv).mono ?_
        rintro e w4 ⟨rfl, rfl⟩
        go_wp2_with fail
        go_ret2
        exact ⟨fun _ => ⟨_, rfl, (by rw [HE.out]; exact hO), hbel⟩, fun h => (by rw [HE.out, hv] at h; cases h)⟩

theorem implLatticeAdd_no (a b : Option Addr) (ca cb : Nat) (l m : List Int) (w : World) (hl : l.length ≤ 9223372036854775807) (hm : m.length ≤ 9223372036854775807) (hr : Reads .i64 w a l) (hs : Reads .i64 w b m) (h : (latOk l && latOk m) = false) :
    Calls Try.prog 19 #[.slice a l.length ca, .slice b m.length cb] w fun e w' => ∃ v, e = .returned (.tuple #[v, .bool false]) ∧ Owns w.heap.size w' v [] ∧ Below w.heap.size w w' := by
  have hb1 : Below w.heap.size w (w.alloc (.cells #[] 3)) := (Below.refl _ _).alloc (Nat.le_refl _) _
  have C1 := Lib.hid (implLatticeIn_any a ca l _ hl (hr.kept hb1))
  have C2 := Lib.hid (fun w' (hb : Below w.heap.size w w') => implLatticeIn_any b cb m w' hm (hs.kept hb))
  have hO0 := Owns.empty w (Nat.le_refl w.heap.size)
  cases h1 : latOk l
  · rw [h1] at C1
    clear h h1
    go_enter Try.func19, Try.ntmps19
    go_wp2_with fail
    refine C1.out.mono ?_
    rintro e w2 ⟨rfl, hs2⟩
    go_wp2_with fail
    go_ret2
    exact ⟨_, rfl, hO0.kept hs2, hb1.trans (hs2.mono hb1.size)⟩
  · rw [h1, Bool.true_and] at h
    rw [h1] at C1
    rw [h] at C2
    clear h h1
    go_enter Try.func19, Try.ntmps19
    go_wp2_with fail
    refine C1.out.mono ?_
    rintro e w2 ⟨rfl, hs2⟩
    have hb2 := hb1.trans (hs2.mono hb1.size)
    go_wp2_with fail
    refine (C2.out _ hb2).mono ?_
    rintro e w3 ⟨rfl, hs3⟩
    go_wp2_with fail
    go_ret2
    exact ⟨_, rfl, (hO0.kept hs2).kept hs3, hb2.trans (hs3.mono hb2.size)⟩

theorem specLatticeAdd_no (a b : Option Addr) (ca cb : Nat) (l m : List Int) (w : World) (hl : l.length ≤ 9223372036854775807) (hm : m.length ≤ 9223372036854775807) (hr : Reads .i64 w a l) (hs : Reads .i64 w b m) (h : (latOk l && latOk m) = false) :
    Calls Try.prog 21 #[.slice a l.length ca, .slice b m.length cb] w fun e w' => ∃ v, e = .returned (.tuple #[v, .bool false]) ∧ Owns w.heap.size w' v [] ∧ Below w.heap.size w w' := by
  have hb1 : Below w.heap.size w (w.alloc (.cells #[] 3)) := (Below.refl _ _).alloc (Nat.le_refl _) _
  have C1 := Lib.hid (specLatticeIn_any a ca l _ hl (hr.kept hb1))
  have C2 := Lib.hid (fun w' (hb : Below w.heap.size w w') => specLatticeIn_any b cb m w' hm (hs.kept hb))
  have hO0 := Owns.empty w (Nat.le_refl w.heap.size)
  cases h1 : latOk l
  · rw [h1] at C1
    clear h h1
    go_enter Try.func21, Try.ntmps21
    go_wp2_with fail
    refine C1.out.mono ?_
    rintro e w2 ⟨rfl, hs2⟩
    go_wp2_with fail
    go_ret2
    exact ⟨_, rfl, hO0.kept hs2, hb1.trans (hs2.mono hb1.size)⟩
  · rw [h1, Bool.true_and] at h
    rw [h1] at C1
    rw [h] at C2
    clear h h1
    go_enter Try.func21, Try.ntmps21
    go_wp2_with fail
    refine C1.out.mono ?_
    rintro e w2 ⟨rfl, hs2⟩
    have hb2 := hb1.trans (hs2.mono hb1.size)
    go_wp2_with fail
    refine (C2.out _ hb2).mono ?_
    rintro e w3 ⟨rfl, hs3⟩
    go_wp2_with fail
    go_ret2
    exact ⟨_, rfl, (hO0.kept hs2).kept hs3, hb2.trans (hs3.mono hb2.size)⟩

theorem specLatticeAdd_ok (a b : Option Addr) (ca cb : Nat) (l m : List Int) (w : World) (hr : Reads .i64 w a l) (hs : Reads .i64 w b m) (h1 : latOk l = true) (h2 : latOk m = true) :
    Calls Try.prog 21 #[.slice a l.length ca, .slice b m.length cb] w fun e w' =>
      (vecOk (addTo l m 24) = true → ∃ v, e = .returned (.tuple #[v, .bool true]) ∧ Owns w.heap.size w' v (addTo l m 24) ∧ Below w.heap.size w w') ∧
      (vecOk (addTo l m 24) = false → ∃ v, e = .returned (.tuple #[v, .bool false]) ∧ Owns w.heap.size w' v [] ∧ Below w.heap.size w w') := by
  have hv1 : vecOk l = true := by unfold latOk at h1; rw [Bool.and_eq_true] at h1; exact h1.1
  have hv2 : vecOk m = true := by unfold latOk at h2; rw [Bool.and_eq_true] at h2; exact h2.1
  obtain ⟨hl, hbl⟩ := vecOk_bd hv1
  obtain ⟨hm, hbm⟩ := vecOk_bd hv2
  have hb1 : Below w.heap.size w (w.alloc (.cells #[] 3)) := (Below.refl _ _).alloc (Nat.le_refl _) _
  have C1 := Lib.hid (specLatticeIn_any a ca l _ (by omega) (hr.kept hb1))
  have C2 := Lib.hid (fun w' (hb : Below w.heap.size w w') => specLatticeIn_any b cb m w' (by omega) (hs.kept hb))
  rw [h1, hl] at C1
  rw [h2, hm] at C2
  rw [hl, hm]
  have HL := Lib.hid hl
  have HM := Lib.hid hm
  have HBL := Lib.hid hbl
  have HBM := Lib.hid hbm
  clear h1 h2 hv1 hv2 hl hm hbl hbm
  have hO0 := Owns.empty w (Nat.le_refl w.heap.size)
  go_enter Try.func21, Try.ntmps21
  go_wp2_with fail
  refine C1.out.mono ?_
  rintro e w2 ⟨rfl, hs2⟩
  have hb2 := hb1.trans (hs2.mono hb1.size)
  go_wp2_with fail
  refine (C2.out _ hb2).mono ?_
  rintro e w3 ⟨rfl, hs3⟩
  have hb3 := hb2.trans (hs3.mono hb2.size)
  have hO3 := (hO0.kept hs2).kept hs3
  go_wp2_with fail
  go_loopw [6, 7] (fun v x wr => ∃ k : Nat, k ≤ 24 ∧ x = .int .i64 (k : Int) ∧ Owns w.heap.size wr v (addTo l m k) ∧ Below w.heap.size w wr)
    (fun _ x _ => (24 - (intOf x).toNat))
  case atStart => exact ⟨0, by omega, rfl, hO3, hb3⟩
  case round =>
    obtain ⟨k, hk, rfl, hO, hbel⟩ := hrel
    have hlen := Nat.le_of_eq (addTo_length l m k)
    have hsz := hbel.size
    by_cases hlt : k < 24
    · have hl := HL.out
      have hm := HM.out
      obtain ⟨x, offx, ha, hbx, hcx⟩ := hr k (by omega)
      obtain ⟨y, offy, hb, hby, hcy⟩ := hs k (by omega)
      subst ha
      subst hb
      have hcx' : wr.cell? ⟨x, offx + k, none⟩ = some (.int .i64 (l.getD k 0)) := by rw [hbel.cell (p := ⟨x, offx + k, none⟩) hbx]; exact hcx
      have hcy' : wr.cell? ⟨y, offy + k, none⟩ = some (.int .i64 (m.getD k 0)) := by rw [hbel.cell (p := ⟨y, offy + k, none⟩) hby]; exact hcy
      have hki : (k : Int) < 24 := by omega
      have D := Lib.hid (addTo_succ l m k)
      have bl := HBL.out k
      have bm := HBM.out k
      clear hcx hcy hl hm
      generalize l.getD k 0 = p at *
      generalize m.getD k 0 = q at *
      have hpq : IntKind.i64.wrap (p + q) = p + q := IntWalk.i64_in _ (by omega)
      have hOd : Owns w.heap.size wr.drew u6 (addTo l m k) := hO
      go_wp2_with fail
      go_region_law (refine step_app rfl (.tmp 22) (.tmp 32) rfl w.heap.size (addTo l m k) (by simp [Act.eval]) (hOd.alloc _) (by simp [Act.eval]) (cell_new _ _ _) (by omega) (by simp; omega) ?_; intro v' w1 hO' hbel')
      all_goals
        go_wp2
        go_roundw
        case rel => exact ⟨k + 1, by omega, by go_num, by rw [D.out]; exact hO', ((hbel.drew).alloc hsz _).trans hbel'⟩
        case measure => simp [intOf]; omega
    · obtain rfl : k = 24 := by omega
      obtain ⟨a6, c6, rfl, hR6, -, -⟩ := hO.shape
      have C3 := Lib.hid (specVectorValid_any a6 c6 (addTo l m 24) wr (by omega) hR6)
      generalize hLe : addTo l m 24 = L at *
      have HE := Lib.hid hLe
      clear hLe
      cases hv : vecOk L
      · rw [hv] at C3
        go_wp2_with fail
        refine C3.out.mono ?_
        rintro e w4 ⟨rfl, rfl⟩
        go_wp2_with fail
        go_ret2
        exact ⟨fun h => (by rw [HE.out, hv] at h; cases h), fun _ => ⟨_, rfl, Owns.empty wr hsz, hbel.alloc hsz _⟩⟩
      · rw [hv] at C3
        go_wp2_with fail
        refine C3.out.mono ?_
        rintro e w4 ⟨rfl, rfl⟩
        go_wp2_with fail
        go_ret2
        exact ⟨fun _ => ⟨_, rfl, (by rw [HE.out]; exact hO), hbel⟩, fun h => (by rw [HE.out, hv] at h; cases h)⟩

end Go.Proofs.Ythbgmmjgenkjpaa
