/- Contracts of the draws of vectors. -/
import Derived.Test.YteedbejlbjfkgaaGreatWDrawV
import Derived.Test.YteedbejlbjfkgaaGreatWPlc
import Derived.Test.YteedbejlbjfkgaaGreatWFour
import Derived.Test.YteedbejlbjfkgaaGreatWThree
import Derived.Test.YteedbejlbjfkgaaGreatWOctV
import Derived.StillTailTactics
set_option linter.unusedVariables false
namespace Go.Proofs.YteedbejlbjfkgaaGreat
open Go.RowKit Res

/-- A list and whether it counts. -/
def TwoL (w : World) (e : Ending) (w' : World) : Prop :=
  ∃ (v : Value) (l : List Int) (b : Bool), e = .returned (.tuple #[v, .bool b]) ∧ Owns w.heap.size w' v l ∧ l.length ≤ 24 ∧ (b = true → l.length = 24) ∧ Below w.heap.size w w'
theorem specLatticeOctad_two (n s : Int) (w : World) : Calls Tryz.prog 25 #[.int .i64 n, .int .i64 s] w (TwoL w) := by
  cases h : octOk n s
  · refine (specLatticeOctad_no n s w h).mono ?_
    rintro e w' ⟨v, he, hO, hb⟩
    exact ⟨v, [], false, he, hO, by simp, fun h => (by cases h), hb⟩
  · refine (specLatticeOctad_ok n s w h).mono ?_
    rintro e w' ⟨v, he, hO, hb⟩
    exact ⟨v, _, true, he, hO, Nat.le_of_eq (ocTo_length _ _ _), fun _ => ocTo_length _ _ _, hb⟩
theorem specLatticeThree_two (n p : Int) (w : World) : Calls Tryz.prog 27 #[.int .i64 n, .int .i64 p] w (TwoL w) := by
  cases h : threeOk n p
  · refine (specLatticeThree_no n p w h).mono ?_
    rintro e w' ⟨v, he, hO, hb⟩
    exact ⟨v, [], false, he, hO, by simp, fun h => (by cases h), hb⟩
  · refine (specLatticeThree_ok n p w h).mono ?_
    rintro e w' ⟨v, he, hO, hb⟩
    exact ⟨v, _, true, he, hO, Nat.le_of_eq (flipV_length _ _), fun _ => flipV_length _ _, hb⟩
theorem specLatticeFour_two (p q : Int) (f s : Bool) (w : World) : Calls Tryz.prog 29 #[.int .i64 p, .int .i64 q, .bool f, .bool s] w (TwoL w) := by
  cases h : fourOk p q
  · refine (specLatticeFour_no p q f s w h).mono ?_
    rintro e w' ⟨v, he, hO, hb⟩
    exact ⟨v, [], false, he, hO, by simp, fun h => (by cases h), hb⟩
  · refine (specLatticeFour_ok p q f s w h).mono ?_
    rintro e w' ⟨v, he, hO, hb⟩
    exact ⟨v, _, true, he, hO, Nat.le_of_eq (fourL_length _ _ _ _), fun _ => fourL_length _ _ _ _, hb⟩

theorem Owns.take {B g n c : Nat} {w : World} {l : List Int} (h : Owns B w (.slice (some ⟨g, 0, none⟩) n c) l) (m : Nat) (hm : m ≤ n) : Owns B w (.slice (some ⟨g, 0, none⟩) m c) (l.take m) := by
  have hn := h.reads.2
  subst hn
  obtain ⟨h1, h2⟩ := h
  refine ⟨by simp, ?_⟩
  rcases h2 with ⟨h2, -⟩ | ⟨g', cap, cur, hv, hb, hh, hnc, hcm, hcs, ht⟩
  · cases h2
  · simp only [Value.slice.injEq, Option.some.injEq, Addr.mk.injEq, and_true] at hv
    obtain ⟨rfl, -, rfl⟩ := hv
    have hlm : (l.take m).length = m := by rw [List.length_take]; omega
    refine .inr ⟨g, c, cur, by rw [hlm], hb, hh, by omega, hcm, hcs, ?_⟩
    rw [hlm, Nat.mul_one, List.map_take, ← ht, List.take_take, Nat.mul_one, Nat.min_eq_left (by omega)]

/-- A drawn vector. -/
def DrewVec (r K : Nat) (w : World) (e : Ending) (w' : World) : Prop :=
  ∃ (v : Value) (l : List Int), e = .returned v ∧ Owns w.heap.size w' v l ∧ l.length ≤ 24 ∧ Reader w' r K ∧ w.grownBy w' (some r)

set_option maxHeartbeats 2000000 in
theorem l92Vector_any (r K : Nat) (w : World) (hR : Reader w r K) (hK : K ≤ 600000) :
    Calls Tryz.prog 13 #[.pointer (some ⟨r, 0, none⟩)] w (DrewVec r (K + 200) w) := by
  have hrl := hR.lt
  go_enter Tryz.func13, Tryz.ntmps13
  go_wp2_with (first | (at_make; refine wpList_mk rfl _ _ rfl w.heap.size 24 rfl rfl rfl rfl (by omega) (by omega) ?_; intro w1 hO1 hs1 hz1) | fail)
  have hR1 := hR.kept hs1
  have hg1 := grown_of_below hs1 (some r)
  refine (pick_any _ _ _ _ hR1 (by omega) (by omega) (by omega)).mono ?_
  rintro e w2 ⟨n2, rfl, hn2, hm2, hR2, hg2, hz2⟩
  have hO2 := hO1.read hg2 hrl
  have hg12 := grown_trans hg1 hg2
  have hsz2 : w.heap.size + 1 ≤ w2.heap.size := (hO2.ge).2
  clear hz2 hg2 hO1 hz1 hs1 hg1 hR1
  go_wp2_with fail
  go_loopw [5] (fun x wr => ∃ (i : Nat) (L : List Int), (i : Int) ≤ 1 + n2 ∧ x = .int .i64 (i : Int) ∧ Owns w.heap.size wr (.slice (some ⟨w.heap.size, 0, none⟩) 24 24) L ∧ L.length = 24 ∧ Reader wr r (K + 1 + 40 * i) ∧ w.grownBy wr (some r))
    (fun x _ => (4 - (intOf x).toNat))
  case atStart => exact ⟨0, List.replicate 24 0, by omega, rfl, hO2, by simp, hR2, hg12⟩
  case round =>
    obtain ⟨i, L, hi, rfl, hO, hLL, hRr, hgr⟩ := hrel
    have hsz := (hO.ge).2
    by_cases hlt : (i : Int) < 1 + n2
    · have hi3 : i < 4 := by omega
      have hRa := hRr.allocd (o := .cells #[] 3)
      have hOa := hO.alloc (.cells #[] 3)
      have hEm : Owns (w.heap.size + 1) (wr.alloc (.cells #[] 3)) (.slice (some ⟨wr.heap.size, 0, none⟩) 0 0) [] := Owns.empty wr (by omega)
      have hga := grown_trans hgr (grown_of_below ((Below.refl wr.heap.size wr).alloc (Nat.le_refl _) (.cells #[] 3)) (some r))
      have hbig := hEm.lt wr.heap.size rfl
      clear hRr hO hgr
      go_wp2_with fail
      refine (pick_any _ _ _ _ hRa (by omega) (by omega) (by omega)).mono ?_
      rintro e w3 ⟨n3, rfl, hn3, hm3, hR3, hg3, hz3⟩
      have hO3 := hOa.read hg3 hrl
      have hE3 := hEm.read hg3 (by omega)
      have hg13 := grown_trans hga hg3
      have hsz3 : w.heap.size + 1 ≤ w3.heap.size := (hO3.ge).2
      clear hz3 hg3 hOa hEm hga hRa hbig
      by_cases h0 : n3 = 0
      · subst h0
        clear hn3 hm3
        go_wp2_with fail
        refine (l91Octad_any _ _ _ hR3 (by omega)).mono ?_
        rintro e w4 ⟨k4, rfl, -, hR4, hg4⟩
        go_wp2_with fail
        refine (pick_any _ _ _ _ hR4 (by omega) (by omega) (by omega)).mono ?_
        rintro e w5 ⟨n5, rfl, hn5, hm5, hR5, hg5, hz5⟩
        clear hz5
        go_wp2_with fail
        refine (specLatticeOctad_two _ _ _).mono ?_
        rintro e w6 ⟨v6, NL, ok, rfl, hN6, hN24, hb6, hs6⟩
        have hsz6 : w.heap.size + 1 ≤ w5.heap.size := ((((hO3.read hg4 hrl).read hg5 hrl) : Owns w.heap.size w5 (.slice (some ⟨w.heap.size, 0, none⟩) 24 24) L).ge).2
        have HO6 := Lib.hid (((hO3.read hg4 hrl).read hg5 hrl).kept hs6)
        have HR6 := Lib.hid (((hR5).kept hs6).mono (K' := K + 1 + 40 * i + 32) (by omega))
        have hg6 := grown_trans (grown_trans (grown_trans hg13 hg4) hg5) (grown_of_below hs6 _)
        obtain ⟨a6, c6, rfl, -, -, -⟩ := hN6.shape
        have HN := Lib.hid (hN6.mono (B' := w.heap.size + 1) hsz6)
        have HLL := Lib.hid hLL
        clear hO3 hE3 hR3 hN6 hLL hs6 hg13 hsz6
        go_wp2_with fail
        go_loopw [8] (fun x wq => ∃ (k : Nat) (L : List Int), k ≤ 24 ∧ x = .int .i64 (k : Int) ∧ Owns w.heap.size wq (.slice (some ⟨w.heap.size, 0, none⟩) 24 24) L ∧ L.length = 24 ∧ Owns (w.heap.size + 1) wq (.slice a6 NL.length c6) NL ∧ Reader wq r (K + 1 + 40 * i + 32) ∧ w.grownBy wq (some r))
          (fun x _ => (24 - (intOf x).toNat))
        case atStart => exact ⟨0, L, by omega, rfl, HO6.out, HLL.out, HN.out, HR6.out, hg6⟩
        case round =>
          obtain ⟨k, L, hk, rfl, hO, hLL, hN, hRq, hgq⟩ := hrel
          have hsz := hgq.size
          by_cases hlt : k < 24 ∧ ok = true
          · obtain ⟨hk24, hok⟩ := hlt
            have hki : (k : Int) < 24 := by omega
            have hNl := hb6 hok
            obtain ⟨b, off, ha, hbl, hcN⟩ := hN.reads.1 k (by omega)
            obtain ⟨hcL, hfL⟩ := hO.at k (by omega)
            have hOd : Owns w.heap.size wr.drew (.slice (some ⟨w.heap.size, 0, none⟩) 24 24) L := hO
            have hcLd : wr.drew.cell? ⟨w.heap.size, k, none⟩ = some (.int .i64 (L.getD k 0)) := hcL
            have hfLd : wr.drew.frozen? ⟨w.heap.size, k, none⟩ = false := hfL
            have hnl := Nat.le_of_eq hNl.symm
            have hki2 : (k : Int) < (NL.length : Int) := by omega
            have HO := Lib.hid (hOd.store k)
            have HLL2 := Lib.hid hLL
            have HN2 := Lib.hid hN
            have hne : ∀ j, (Value.slice a6 NL.length c6).ownBlock = some j → some j ≠ some w.heap.size := fun j hj e => by
              have := (hN.lt j hj).1
              simp at e
              omega
            have HNE := Lib.hid hne
            subst ha
            subst hok
            clear hNl hN hO hLL hOd hne hb6
            generalize NL.getD k 0 = y at *
            generalize L.getD k 0 = x at *
            go_wp2_with fail
            go_still_tail 12, (by kernel_rfl)
            change wpList _ _ _ _ _ wr.drew
            go_wp2
            go_roundw
            case rel => exact ⟨k + 1, _, by omega, by go_num, (HO.out _).1, by rw [List.length_set]; exact HLL2.out, HN2.out.grown (grown_drew (HO.out _).2) HNE.out, hRq.grownO (grown_drew (HO.out _).2) (fun j hj => by cases hj; exact hrl), grown_own hgq (grown_drew (HO.out _).2) (fun j hj => by cases hj; exact Nat.le_refl _)⟩
            case measure => simp [intOf]; omega
          · have HO := Lib.hid hO
            have HLL2 := Lib.hid hLL
            have hend : ((k : Int) < 24 ∧ ok = true) = False := by rw [eq_iff_iff, iff_false]; exact fun h => hlt ⟨by omega, h.2⟩
            have hRq2 := hRq.mono (K' := K + 1 + 40 * (i + 1)) (by omega)
            clear hO hLL hN
            cases ok
            · clear hlt hend
              by_cases hk24 : (k : Int) < 24
              · go_wp2_with fail
                go_roundw
                case rel => exact ⟨i + 1, L, by omega, by go_num, HO.out, HLL2.out, hRq2, hgq⟩
                case measure => simp [intOf]; omega
              · go_wp2_with fail
                go_roundw
                case rel => exact ⟨i + 1, L, by omega, by go_num, HO.out, HLL2.out, hRq2, hgq⟩
                case measure => simp [intOf]; omega
            · have hk24 : ¬ (k : Int) < 24 := fun h => hlt ⟨by omega, rfl⟩
              clear hlt hend
              go_wp2_with fail
              go_roundw
              case rel => exact ⟨i + 1, L, by omega, by go_num, HO.out, HLL2.out, hRq2, hgq⟩
              case measure => simp [intOf]; omega
      by_cases h1 : n3 = 1
      · subst h1
        clear h0 hn3 hm3
        go_wp2_with fail
        refine (l91Code_any _ _ _ hR3 (by omega)).mono ?_
        rintro e w4 ⟨k4, rfl, -, hR4, hg4⟩
        go_wp2_with fail
        refine (pick_any _ _ _ _ hR4 (by omega) (by omega) (by omega)).mono ?_
        rintro e w5 ⟨n5, rfl, hn5, hm5, hR5, hg5, hz5⟩
        clear hz5
        go_wp2_with fail
        refine (specLatticeThree_two _ _ _).mono ?_
        rintro e w6 ⟨v6, NL, ok, rfl, hN6, hN24, hb6, hs6⟩
        have hsz6 : w.heap.size + 1 ≤ w5.heap.size := ((((hO3.read hg4 hrl).read hg5 hrl) : Owns w.heap.size w5 (.slice (some ⟨w.heap.size, 0, none⟩) 24 24) L).ge).2
        have HO6 := Lib.hid (((hO3.read hg4 hrl).read hg5 hrl).kept hs6)
        have HR6 := Lib.hid (((hR5).kept hs6).mono (K' := K + 1 + 40 * i + 32) (by omega))
        have hg6 := grown_trans (grown_trans (grown_trans hg13 hg4) hg5) (grown_of_below hs6 _)
        obtain ⟨a6, c6, rfl, -, -, -⟩ := hN6.shape
        have HN := Lib.hid (hN6.mono (B' := w.heap.size + 1) hsz6)
        have HLL := Lib.hid hLL
        clear hO3 hE3 hR3 hN6 hLL hs6 hg13 hsz6
        go_wp2_with fail
        go_loopw [8] (fun x wq => ∃ (k : Nat) (L : List Int), k ≤ 24 ∧ x = .int .i64 (k : Int) ∧ Owns w.heap.size wq (.slice (some ⟨w.heap.size, 0, none⟩) 24 24) L ∧ L.length = 24 ∧ Owns (w.heap.size + 1) wq (.slice a6 NL.length c6) NL ∧ Reader wq r (K + 1 + 40 * i + 32) ∧ w.grownBy wq (some r))
          (fun x _ => (24 - (intOf x).toNat))
        case atStart => exact ⟨0, L, by omega, rfl, HO6.out, HLL.out, HN.out, HR6.out, hg6⟩
        case round =>
          obtain ⟨k, L, hk, rfl, hO, hLL, hN, hRq, hgq⟩ := hrel
          have hsz := hgq.size
          by_cases hlt : k < 24 ∧ ok = true
          · obtain ⟨hk24, hok⟩ := hlt
            have hki : (k : Int) < 24 := by omega
            have hNl := hb6 hok
            obtain ⟨b, off, ha, hbl, hcN⟩ := hN.reads.1 k (by omega)
            obtain ⟨hcL, hfL⟩ := hO.at k (by omega)
            have hOd : Owns w.heap.size wr.drew (.slice (some ⟨w.heap.size, 0, none⟩) 24 24) L := hO
            have hcLd : wr.drew.cell? ⟨w.heap.size, k, none⟩ = some (.int .i64 (L.getD k 0)) := hcL
            have hfLd : wr.drew.frozen? ⟨w.heap.size, k, none⟩ = false := hfL
            have hnl := Nat.le_of_eq hNl.symm
            have hki2 : (k : Int) < (NL.length : Int) := by omega
            have HO := Lib.hid (hOd.store k)
            have HLL2 := Lib.hid hLL
            have HN2 := Lib.hid hN
            have hne : ∀ j, (Value.slice a6 NL.length c6).ownBlock = some j → some j ≠ some w.heap.size := fun j hj e => by
              have := (hN.lt j hj).1
              simp at e
              omega
            have HNE := Lib.hid hne
            subst ha
            subst hok
            clear hNl hN hO hLL hOd hne hb6
            generalize NL.getD k 0 = y at *
            generalize L.getD k 0 = x at *
            go_wp2_with fail
            go_still_tail 12, (by kernel_rfl)
            change wpList _ _ _ _ _ wr.drew
            go_wp2
            go_roundw
            case rel => exact ⟨k + 1, _, by omega, by go_num, (HO.out _).1, by rw [List.length_set]; exact HLL2.out, HN2.out.grown (grown_drew (HO.out _).2) HNE.out, hRq.grownO (grown_drew (HO.out _).2) (fun j hj => by cases hj; exact hrl), grown_own hgq (grown_drew (HO.out _).2) (fun j hj => by cases hj; exact Nat.le_refl _)⟩
            case measure => simp [intOf]; omega
          · have HO := Lib.hid hO
            have HLL2 := Lib.hid hLL
            have hend : ((k : Int) < 24 ∧ ok = true) = False := by rw [eq_iff_iff, iff_false]; exact fun h => hlt ⟨by omega, h.2⟩
            have hRq2 := hRq.mono (K' := K + 1 + 40 * (i + 1)) (by omega)
            clear hO hLL hN
            cases ok
            · clear hlt hend
              by_cases hk24 : (k : Int) < 24
              · go_wp2_with fail
                go_roundw
                case rel => exact ⟨i + 1, L, by omega, by go_num, HO.out, HLL2.out, hRq2, hgq⟩
                case measure => simp [intOf]; omega
              · go_wp2_with fail
                go_roundw
                case rel => exact ⟨i + 1, L, by omega, by go_num, HO.out, HLL2.out, hRq2, hgq⟩
                case measure => simp [intOf]; omega
            · have hk24 : ¬ (k : Int) < 24 := fun h => hlt ⟨by omega, rfl⟩
              clear hlt hend
              go_wp2_with fail
              go_roundw
              case rel => exact ⟨i + 1, L, by omega, by go_num, HO.out, HLL2.out, hRq2, hgq⟩
              case measure => simp [intOf]; omega
      by_cases h2 : n3 = 2
      · subst h2
        clear h0 h1 hn3 hm3
        go_wp2_with fail
        refine (pick_any _ _ _ _ hR3 (by omega) (by omega) (by omega)).mono ?_
        rintro e w7 ⟨n7, rfl, hn7, hm7, hR7, hg7, hz7⟩
        go_wp2_with fail
        refine (pick_any _ _ _ _ hR7 (by omega) (by omega) (by omega)).mono ?_
        rintro e w8 ⟨n8, rfl, hn8, hm8, hR8, hg8, hz8⟩
        go_wp2_with fail
        refine (pick_any _ _ _ _ hR8 (by omega) (by omega) (by omega)).mono ?_
        rintro e w9 ⟨n9, rfl, hn9, hm9, hR9, hg9, hz9⟩
        go_wp2_with fail
        refine (pick_any _ _ _ _ hR9 (by omega) (by omega) (by omega)).mono ?_
        rintro e w5 ⟨n5, rfl, hn5, hm5, hR5, hg5, hz5⟩
        clear hz7 hz8 hz9 hz5
        go_wp2_with fail
        refine (specLatticeFour_two _ _ _ _ _).mono ?_
        rintro e w6 ⟨v6, NL, ok, rfl, hN6, hN24, hb6, hs6⟩
        have hsz6 : w.heap.size + 1 ≤ w5.heap.size := ((((((hO3.read hg7 hrl).read hg8 hrl).read hg9 hrl).read hg5 hrl) : Owns w.heap.size w5 (.slice (some ⟨w.heap.size, 0, none⟩) 24 24) L).ge).2
        have HO6 := Lib.hid (((((hO3.read hg7 hrl).read hg8 hrl).read hg9 hrl).read hg5 hrl).kept hs6)
        have HR6 := Lib.hid (((hR5).kept hs6).mono (K' := K + 1 + 40 * i + 32) (by omega))
        have hg6 := grown_trans (grown_trans (grown_trans (grown_trans (grown_trans hg13 hg7) hg8) hg9) hg5) (grown_of_below hs6 _)
        obtain ⟨a6, c6, rfl, -, -, -⟩ := hN6.shape
        have HN := Lib.hid (hN6.mono (B' := w.heap.size + 1) hsz6)
        have HLL := Lib.hid hLL
        clear hO3 hE3 hR3 hN6 hLL hs6 hg13 hsz6
        go_wp2_with fail
        go_loopw [8] (fun x wq => ∃ (k : Nat) (L : List Int), k ≤ 24 ∧ x = .int .i64 (k : Int) ∧ Owns w.heap.size wq (.slice (some ⟨w.heap.size, 0, none⟩) 24 24) L ∧ L.length = 24 ∧ Owns (w.heap.size + 1) wq (.slice a6 NL.length c6) NL ∧ Reader wq r (K + 1 + 40 * i + 32) ∧ w.grownBy wq (some r))
          (fun x _ => (24 - (intOf x).toNat))
        case atStart => exact ⟨0, L, by omega, rfl, HO6.out, HLL.out, HN.out, HR6.out, hg6⟩
        case round =>
          obtain ⟨k, L, hk, rfl, hO, hLL, hN, hRq, hgq⟩ := hrel
          have hsz := hgq.size
          by_cases hlt : k < 24 ∧ ok = true
          · obtain ⟨hk24, hok⟩ := hlt
            have hki : (k : Int) < 24 := by omega
            have hNl := hb6 hok
            obtain ⟨b, off, ha, hbl, hcN⟩ := hN.reads.1 k (by omega)
            obtain ⟨hcL, hfL⟩ := hO.at k (by omega)
            have hOd : Owns w.heap.size wr.drew (.slice (some ⟨w.heap.size, 0, none⟩) 24 24) L := hO
            have hcLd : wr.drew.cell? ⟨w.heap.size, k, none⟩ = some (.int .i64 (L.getD k 0)) := hcL
            have hfLd : wr.drew.frozen? ⟨w.heap.size, k, none⟩ = false := hfL
            have hnl := Nat.le_of_eq hNl.symm
            have hki2 : (k : Int) < (NL.length : Int) := by omega
            have HO := Lib.hid (hOd.store k)
            have HLL2 := Lib.hid hLL
            have HN2 := Lib.hid hN
            have hne : ∀ j, (Value.slice a6 NL.length c6).ownBlock = some j → some j ≠ some w.heap.size := fun j hj e => by
              have := (hN.lt j hj).1
              simp at e
              omega
            have HNE := Lib.hid hne
            subst ha
            subst hok
            clear hNl hN hO hLL hOd hne hb6
            generalize NL.getD k 0 = y at *
            generalize L.getD k 0 = x at *
            go_wp2_with fail
            go_still_tail 12, (by kernel_rfl)
            change wpList _ _ _ _ _ wr.drew
            go_wp2
            go_roundw
            case rel => exact ⟨k + 1, _, by omega, by go_num, (HO.out _).1, by rw [List.length_set]; exact HLL2.out, HN2.out.grown (grown_drew (HO.out _).2) HNE.out, hRq.grownO (grown_drew (HO.out _).2) (fun j hj => by cases hj; exact hrl), grown_own hgq (grown_drew (HO.out _).2) (fun j hj => by cases hj; exact Nat.le_refl _)⟩
            case measure => simp [intOf]; omega
          · have HO := Lib.hid hO
            have HLL2 := Lib.hid hLL
            have hend : ((k : Int) < 24 ∧ ok = true) = False := by rw [eq_iff_iff, iff_false]; exact fun h => hlt ⟨by omega, h.2⟩
            have hRq2 := hRq.mono (K' := K + 1 + 40 * (i + 1)) (by omega)
            clear hO hLL hN
            cases ok
            · clear hlt hend
              by_cases hk24 : (k : Int) < 24
              · go_wp2_with fail
                go_roundw
                case rel => exact ⟨i + 1, L, by omega, by go_num, HO.out, HLL2.out, hRq2, hgq⟩
                case measure => simp [intOf]; omega
              · go_wp2_with fail
                go_roundw
                case rel => exact ⟨i + 1, L, by omega, by go_num, HO.out, HLL2.out, hRq2, hgq⟩
                case measure => simp [intOf]; omega
            · have hk24 : ¬ (k : Int) < 24 := fun h => hlt ⟨by omega, rfl⟩
              clear hlt hend
              go_wp2_with fail
              go_roundw
              case rel => exact ⟨i + 1, L, by omega, by go_num, HO.out, HLL2.out, hRq2, hgq⟩
              case measure => simp [intOf]; omega
      have e0 : (n3 == 0) = false := by rw [beq_eq_false_iff_ne]; exact h0
      have e1 : (n3 == 1) = false := by rw [beq_eq_false_iff_ne]; exact h1
      have e2 : (n3 == 2) = false := by rw [beq_eq_false_iff_ne]; exact h2
      clear h0 h1 h2
      have HO3 := Lib.hid hO3
      have HLL := Lib.hid hLL
      have hRq2 := hR3.mono (K' := K + 1 + 40 * (i + 1)) (by omega)
      clear hO3 hE3 hLL hR3
      go_wp2_with fail
      go_loopw [8] (fun x wq => x = .int .i64 0 ∧ wq = w3)
        (fun _ _ => 0)
      case atStart => exact ⟨rfl, rfl⟩
      case round =>
        obtain ⟨rfl, rfl⟩ := hrel
        go_wp2_with fail
        go_roundw
        case rel => exact ⟨i + 1, L, by omega, by go_num, HO3.out, HLL.out, hRq2, hg13⟩
        case measure => simp [intOf]; omega
    · have hK4 : K + 1 + 40 * i ≤ K + 161 := by omega
      go_wp2_with fail
      refine (pick_any _ _ _ _ hRr (by omega) (by omega) (by omega)).mono ?_
      rintro e w3 ⟨n3, rfl, hn3, hm3, hR3, hg3, hz3⟩
      have hO3 := hO.read hg3 hrl
      have hg13 := grown_trans hgr hg3
      clear hz3 hg3 hO hgr hRr
      by_cases h0 : n3 = 0
      · subst h0
        clear hn3 hm3
        go_wp2_with fail
        refine (pick_any _ _ _ _ hR3 (by omega) (by omega) (by omega)).mono ?_
        rintro e w4 ⟨n4, rfl, hn4, hm4, hR4, hg4, hz4⟩
        go_wp2_with fail
        refine (pick_any _ _ _ _ hR4 (by omega) (by omega) (by omega)).mono ?_
        rintro e w5 ⟨n5, rfl, hn5, hm5, hR5, hg5, hz5⟩
        obtain ⟨q, rfl⟩ := Int.eq_ofNat_of_zero_le hn4
        have hO5 := (hO3.read hg4 hrl).read hg5 hrl
        obtain ⟨hc5, hf5⟩ := hO5.at q (by omega)
        have hg15 := grown_trans (grown_trans hg13 hg4) hg5
        have HS := Lib.hid (hO5.store q)
        have HLL := Lib.hid hLL
        clear hO3 hg4 hg5 hz4 hz5 hO5 hLL
        generalize L.getD q 0 = x at *
        go_wp2_with fail
        go_ret
        exact ⟨_, L.set q (n5 - 4), rfl, (HS.out _).1, by rw [List.length_set]; exact Nat.le_of_eq HLL.out, (hR5.grownO (HS.out _).2 (fun j hj => by cases hj; exact hrl)).mono (by omega), grown_own hg15 (HS.out _).2 (fun j hj => by cases hj; exact Nat.le_refl _)⟩
      by_cases h1 : n3 = 1
      · subst h1
        obtain ⟨hc5, hf5⟩ := hO3.at 0 (by omega)
        have HS := Lib.hid (hO3.store 0)
        have HLL := Lib.hid hLL
        clear h0 hn3 hm3 hO3 hLL
        generalize L.getD 0 0 = x at *
        go_wp2_with fail
        go_ret
        exact ⟨_, L.set 0 100001, rfl, (HS.out _).1, by rw [List.length_set]; exact Nat.le_of_eq HLL.out, (hR3.grownO (HS.out _).2 (fun j hj => by cases hj; exact hrl)).mono (by omega), grown_own hg13 (HS.out _).2 (fun j hj => by cases hj; exact Nat.le_refl _)⟩
      by_cases h2 : n3 = 2
      · subst h2
        have HS := Lib.hid (hO3.take 23 (by omega))
        have HLL := Lib.hid hLL
        clear h0 h1 hn3 hm3 hO3 hLL
        go_wp2_with fail
        go_ret
        exact ⟨_, L.take 23, rfl, HS.out, by rw [List.length_take]; omega, hR3.mono (by omega), hg13⟩
      have e0 : (n3 == 0) = false := by rw [beq_eq_false_iff_ne]; exact h0
      have e1 : (n3 == 1) = false := by rw [beq_eq_false_iff_ne]; exact h1
      have e2 : (n3 == 2) = false := by rw [beq_eq_false_iff_ne]; exact h2
      have HS := Lib.hid hO3
      have HLL := Lib.hid hLL
      clear h0 h1 h2 hO3 hLL
      go_wp2_with fail
      go_ret
      exact ⟨_, L, rfl, HS.out, Nat.le_of_eq HLL.out, hR3.mono (by omega), hg13⟩

/-- A drawn vector, and nothing that was there has changed. -/
theorem drawn_vec {r : Nat} {w w1 w2 : World} (hb1 : Below w.heap.size w w1) (hr : w.heap.size ≤ r) (hg : w1.grownBy w2 (some r)) : Below w.heap.size w w2 :=
  hb1.grown hg hb1.size (by rintro k hk; cases hk; exact hr)


end Go.Proofs.YteedbejlbjfkgaaGreat
