/- Contracts of HexIn, and of the comparisons of lists under it. -/
import Derived.Test.YtmgdcnibmifdeaaGreatDoorWHex
import Derived.Deep.RegionHeld3
set_option linter.unusedVariables false
namespace Go.Proofs.YtmgdcnibmifdeaaGreatDoor
open Go.RowKit Res

theorem take_next {l m : List Nat} {k : Nat} (h : l.take k = m.take k) (hl : k < l.length) (hm : k < m.length) (he : l.getD k 0 = m.getD k 0) : l.take (k + 1) = m.take (k + 1) := by
  rw [List.take_succ_eq_append_getElem hl, List.take_succ_eq_append_getElem hm, h]
  simp only [List.getD, List.getElem?_eq_getElem hl, List.getElem?_eq_getElem hm, Option.getD_some] at he
  rw [he]

theorem equal6_any (a b : Option Addr) (ca cb : Nat) (l m : List Nat) (w : World) (hl : l.length = 6) (hm : m.length = 6) (hr : ReadsN w a l) (hs : ReadsN w b m) :
    Calls Tryz.prog 140 #[.slice a 6 ca, .slice b 6 cb] w fun e w' => e = .returned (.bool (l == m)) ∧ Below w.heap.size w w' := by
  have Hl := Lib.hid hl
  have Hm := Lib.hid hm
  clear hl hm
  go_enter Tryz.func140, Tryz.ntmps140
  go_wp2
  go_loopw [13] (fun x wr => ∃ k : Nat, k ≤ 6 ∧ x = .int .i64 (k : Int) ∧ Hid (l.take k = m.take k) ∧ ∃ n, wr = w.drewN n)
    (fun x _ => (6 - (intOf x).toNat))
  case atStart => exact ⟨0, by omega, rfl, Lib.hid rfl, 0, rfl⟩
  case round =>
    obtain ⟨k, hk, rfl, htk, nd, rfl⟩ := hrel
    by_cases hlt : k < 6
    · have hl := Hl.out
      have hm := Hm.out
      have hnext := Lib.hid (take_next (k := k) htk.out (by omega) (by omega))
      obtain ⟨b1, off1, ha, hb1, hc1⟩ := hr k (by omega)
      obtain ⟨b2, off2, hb, hb2, hc2⟩ := hs k (by omega)
      subst ha
      subst hb
      have hki : (k : Int) < 6 := by omega
      clear hl hm
      by_cases he : l.getD k 0 = m.getD k 0
      · have N := Lib.hid (hnext.out he)
        rw [he] at hc1
        generalize m.getD k 0 = y at *
        have hb : ((y : Int) != (y : Int)) = false := by simp
        clear he hnext htk
        go_wp2
        go_quiet (fail)
        go_wp2
        go_roundw
        case rel => exact ⟨k + 1, by omega, by go_num, N, _, rfl⟩
        case measure => simp [intOf]; omega
      · have hne : (l == m) = false := by
          rw [beq_eq_false_iff_ne]
          intro h
          exact he (by rw [h])
        have Hne := Lib.hid hne
        have hb : (((l.getD k 0 : Nat) : Int) != ((m.getD k 0 : Nat) : Int)) = true := by
          rw [bne_iff_ne]
          omega
        generalize l.getD k 0 = x at *
        generalize m.getD k 0 = y at *
        clear he hne hnext htk
        go_wp2
        go_quiet (fail)
        go_wp2
        go_ret
        exact ⟨ret_bool Hne.out.symm, below_drewN (below_drewN (Below.refl _ _) _) _⟩
    · go_wp2
      go_ret
      obtain rfl : k = 6 := by omega
      have e : l = m := by
        have h := htk.out
        rw [List.take_of_length_le (Nat.le_of_eq Hl.out), List.take_of_length_le (Nat.le_of_eq Hm.out)] at h
        exact h
      exact ⟨ret_bool (by rw [e]; simp), below_drewN (Below.refl _ _) _⟩

theorem l2Same_any (a b : Option Addr) (ca cb : Nat) (l m : List Nat) (w : World) (hl : l.length = 6) (hm : m.length = 6) (hr : ReadsN w a l) (hs : ReadsN w b m) :
    Calls Tryz.prog 199 #[.slice a 6 ca, .slice b 6 cb] w fun e w' => e = .returned (.bool (l == m)) ∧ Below w.heap.size w w' := by
  have Hl := Lib.hid hl
  have Hm := Lib.hid hm
  clear hl hm
  go_enter Tryz.func199, Tryz.ntmps199
  go_wp2
  go_loopw [5] (fun x wr => ∃ k : Nat, k ≤ 6 ∧ x = .int .i64 (k : Int) ∧ Hid (l.take k = m.take k) ∧ ∃ n, wr = w.drewN n)
    (fun x _ => (6 - (intOf x).toNat))
  case atStart => exact ⟨0, by omega, rfl, Lib.hid rfl, 0, rfl⟩
  case round =>
    obtain ⟨k, hk, rfl, htk, nd, rfl⟩ := hrel
    by_cases hlt : k < 6
    · have hl := Hl.out
      have hm := Hm.out
      have hnext := Lib.hid (take_next (k := k) htk.out (by omega) (by omega))
      obtain ⟨b1, off1, ha, hb1, hc1⟩ := hr k (by omega)
      obtain ⟨b2, off2, hb, hb2, hc2⟩ := hs k (by omega)
      subst ha
      subst hb
      have hki : (k : Int) < 6 := by omega
      clear hl hm
      by_cases he : l.getD k 0 = m.getD k 0
      · have N := Lib.hid (hnext.out he)
        rw [he] at hc1
        generalize m.getD k 0 = y at *
        have hb : ((y : Int) != (y : Int)) = false := by simp
        clear he hnext htk
        go_wp2
        go_quiet (fail)
        go_wp2
        go_roundw
        case rel => exact ⟨k + 1, by omega, by go_num, N, _, rfl⟩
        case measure => simp [intOf]; omega
      · have hne : (l == m) = false := by
          rw [beq_eq_false_iff_ne]
          intro h
          exact he (by rw [h])
        have Hne := Lib.hid hne
        have hb : (((l.getD k 0 : Nat) : Int) != ((m.getD k 0 : Nat) : Int)) = true := by
          rw [bne_iff_ne]
          omega
        generalize l.getD k 0 = x at *
        generalize m.getD k 0 = y at *
        clear he hne hnext htk
        go_wp2
        go_quiet (fail)
        go_wp2
        go_ret
        exact ⟨ret_bool Hne.out.symm, below_drewN (below_drewN (Below.refl _ _) _) _⟩
    · go_wp2
      go_ret
      obtain rfl : k = 6 := by omega
      have e : l = m := by
        have h := htk.out
        rw [List.take_of_length_le (Nat.le_of_eq Hl.out), List.take_of_length_le (Nat.le_of_eq Hm.out)] at h
        exact h
      exact ⟨ret_bool (by rw [e]; simp), below_drewN (Below.refl _ _) _⟩

theorem cells3 {w w' : World} {b off : Nat} {u v x : Value} (h : Below w.heap.size w w') (hb : b < w.heap.size)
    (h0 : w.cell? ⟨b, off, none⟩ = some u) (h1 : w.cell? ⟨b, off + 1, none⟩ = some v) (h2 : w.cell? ⟨b, off + 2, none⟩ = some x) :
    w'.cell? ⟨b, off, none⟩ = some u ∧ w'.cell? ⟨b, off + 1, none⟩ = some v ∧ w'.cell? ⟨b, off + 2, none⟩ = some x :=
  ⟨by rw [h.cell (p := ⟨b, off, none⟩) hb]; exact h0, by rw [h.cell (p := ⟨b, off + 1, none⟩) hb]; exact h1, by rw [h.cell (p := ⟨b, off + 2, none⟩) hb]; exact h2⟩

theorem implHexIn_any (a : Option Addr) (cap : Nat) (l : List Nat) (w : World) (hl : l.length = 6) (hd : ∀ i, l.getD i 0 ≤ 3) (hr : ReadsN w a l) :
    Calls Tryz.prog 94 #[.slice a 6 cap] w fun e w' => e = .returned (.bool (hexIs l)) ∧ Below w.heap.size w w' := by
  have C1 := Lib.hid (fun n => rowOk_any a cap l (w.drewN n) hl hd hr)
  obtain ⟨b, off, ha, hb, hc0⟩ := hr 0 (by omega)
  have hc1 : w.cell? ⟨b, off + 1, none⟩ = some (.int .i64 ((l.getD 1 0 : Nat) : Int)) := by
    obtain ⟨b', off', ha', -, h⟩ := hr 1 (by omega)
    rw [ha] at ha'
    simp at ha'
    obtain ⟨rfl, rfl⟩ := ha'
    exact h
  have hc2 : w.cell? ⟨b, off + 2, none⟩ = some (.int .i64 ((l.getD 2 0 : Nat) : Int)) := by
    obtain ⟨b', off', ha', -, h⟩ := hr 2 (by omega)
    rw [ha] at ha'
    simp at ha'
    obtain ⟨rfl, rfl⟩ := ha'
    exact h
  rw [Nat.add_zero] at hc0
  have hd0 := hd 0
  have hd1 := hd 1
  have hd2 := hd 2
  have Hhex : Hid (hexIs l = (l == hexRow (l.getD 0 0) (l.getD 1 0) (l.getD 2 0))) := Lib.hid rfl
  have Hl := Lib.hid hl
  have Hr := Lib.hid hr
  clear hd hl hr
  rw [Hhex.out]
  clear Hhex
  generalize l.getD 0 0 = x0 at *
  generalize l.getD 1 0 = x1 at *
  generalize l.getD 2 0 = x2 at *
  subst ha
  go_enter Tryz.func94, Tryz.ntmps94
  go_wp2
  have hRd : ReadsN w.drew (some ⟨b, off, none⟩) l := Hr.out
  go_region_held3 (fun w' => w'.cell? ⟨b, off, none⟩ = some (.int .i64 (x0 : Int)) ∧ w'.cell? ⟨b, off + 1, none⟩ = some (.int .i64 (x1 : Int)) ∧ w'.cell? ⟨b, off + 2, none⟩ = some (.int .i64 (x2 : Int)))
    (first | go_keep | exact cells3 hs2 hb hc0 hc1 hc2 | exact cells3 (hs2.trans (hs3.mono hs2.size)) hb hc0 hc1 hc2)
    (first | (go_at_call 139; refine (C1.out 1).mono ?_; rintro e w' ⟨rfl, rfl⟩) | (go_at_call 71; refine (hexOf_any _ _ _ _ (by omega) (by omega) (by omega) (by omega) (by omega) (by omega)).mono ?_; rintro e w2 ⟨v2, rfl, hO2, hs2⟩; simp only [Int.toNat_natCast] at hO2; obtain ⟨a2, k2, rfl, hR2, hl2, hk2⟩ := hO2.shapeN; rw [hexRow_length]) | (go_at_call 140; refine (equal6_any _ _ _ _ l _ _ Hl.out (hexRow_length _ _ _) (hRd.kept hs2) hR2).mono ?_; rintro e w3 ⟨rfl, hs3⟩))
  all_goals
    go_wp2_with fail
    go_ret
    exact ⟨rfl, ((Below.refl _ _).drew.trans (hs2.mono (Nat.le_refl _))).trans (hs3.mono hs2.size)⟩

theorem specHexIn_any (a : Option Addr) (cap : Nat) (l : List Nat) (w : World) (hl : l.length = 6) (hd : ∀ i, l.getD i 0 ≤ 3) (hr : ReadsN w a l) :
    Calls Tryz.prog 178 #[.slice a 6 cap] w fun e w' => e = .returned (.bool (hexIs l)) ∧ Below w.heap.size w w' := by
  have C1 := Lib.hid (fun n => l2Row_any a cap l (w.drewN n) hl hd hr)
  obtain ⟨b, off, ha, hb, hc0⟩ := hr 0 (by omega)
  have hc1 : w.cell? ⟨b, off + 1, none⟩ = some (.int .i64 ((l.getD 1 0 : Nat) : Int)) := by
    obtain ⟨b', off', ha', -, h⟩ := hr 1 (by omega)
    rw [ha] at ha'
    simp at ha'
    obtain ⟨rfl, rfl⟩ := ha'
    exact h
  have hc2 : w.cell? ⟨b, off + 2, none⟩ = some (.int .i64 ((l.getD 2 0 : Nat) : Int)) := by
    obtain ⟨b', off', ha', -, h⟩ := hr 2 (by omega)
    rw [ha] at ha'
    simp at ha'
    obtain ⟨rfl, rfl⟩ := ha'
    exact h
  rw [Nat.add_zero] at hc0
  have hd0 := hd 0
  have hd1 := hd 1
  have hd2 := hd 2
  have Hhex : Hid (hexIs l = (l == hexRow (l.getD 0 0) (l.getD 1 0) (l.getD 2 0))) := Lib.hid rfl
  have Hl := Lib.hid hl
  have Hr := Lib.hid hr
  clear hd hl hr
  rw [Hhex.out]
  clear Hhex
  generalize l.getD 0 0 = x0 at *
  generalize l.getD 1 0 = x1 at *
  generalize l.getD 2 0 = x2 at *
  subst ha
  go_enter Tryz.func178, Tryz.ntmps178
  go_wp2
  have hRd : ReadsN w.drew (some ⟨b, off, none⟩) l := Hr.out
  go_region_held3 (fun w' => w'.cell? ⟨b, off, none⟩ = some (.int .i64 (x0 : Int)) ∧ w'.cell? ⟨b, off + 1, none⟩ = some (.int .i64 (x1 : Int)) ∧ w'.cell? ⟨b, off + 2, none⟩ = some (.int .i64 (x2 : Int)))
    (first | go_keep | exact cells3 hs2 hb hc0 hc1 hc2 | exact cells3 (hs2.trans (hs3.mono hs2.size)) hb hc0 hc1 hc2)
    (first | (go_at_call 198; refine (C1.out 1).mono ?_; rintro e w' ⟨rfl, rfl⟩) | (go_at_call 73; refine (l2Of_any _ _ _ _ (by omega) (by omega) (by omega) (by omega) (by omega) (by omega)).mono ?_; rintro e w2 ⟨v2, rfl, hO2, hs2⟩; simp only [Int.toNat_natCast] at hO2; obtain ⟨a2, k2, rfl, hR2, hl2, hk2⟩ := hO2.shapeN; rw [hexRow_length]) | (go_at_call 199; refine (l2Same_any _ _ _ _ l _ _ Hl.out (hexRow_length _ _ _) (hRd.kept hs2) hR2).mono ?_; rintro e w3 ⟨rfl, hs3⟩))
  all_goals
    go_wp2_with fail
    go_ret
    exact ⟨rfl, ((Below.refl _ _).drew.trans (hs2.mono (Nat.le_refl _))).trans (hs3.mono hs2.size)⟩

end Go.Proofs.YtmgdcnibmifdeaaGreatDoor
