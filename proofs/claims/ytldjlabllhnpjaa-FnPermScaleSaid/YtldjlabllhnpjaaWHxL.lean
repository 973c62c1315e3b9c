/- Contracts and plain laws for the laws on rows and digits: the draw of a row, CodeOf, CodeScores; the permutations of rows keep the code. -/
import Derived.Test.YtldjlabllhnpjaaWPermH
import Derived.Test.YtldjlabllhnpjaaWKp
import Derived.Test.YtldjlabllhnpjaaWPt
set_option linter.unusedVariables false
namespace Go.Proofs.Ytldjlabllhnpjaa
open Go.RowKit Res

theorem Owns.take' {B g n c : Nat} {w : World} {l : List Int} (h : Owns B w (.slice (some ⟨g, 0, none⟩) n c) l) (m : Nat) (hm : m ≤ n) : Owns B w (.slice (some ⟨g, 0, none⟩) m c) (l.take m) := by
  have hn := h.reads.2
  subst hn
  obtain ⟨h1, h2⟩ := h
  refine ⟨by simp, ?_⟩
  rcases h2 with ⟨h2, -⟩ | ⟨g', cap, cur, hv, hb, hh, hnc, hcm, hcs, ht⟩
  · cases h2
  · simp only [Value.slice.injEq, Option.some.injEq, Addr.mk.injEq, and_true] at hv
    obtain ⟨rfl, -, rfl⟩ := hv
    have hlm : (l.take m).length = m := by rw [List.length_take]; omega
    refine .inr ⟨g, c, cur, by rw [hlm], hb, hh, by omega, hcm, hcs, ?_⟩
    rw [hlm, Nat.mul_one, List.map_take, ← ht, List.take_take, Nat.mul_one, Nat.min_eq_left (by omega)]

theorem l91Row_any (r K : Nat) (w : World) (hR : Reader w r K) (hK : K ≤ 600000) :
    Calls Try.prog 92 #[.pointer (some ⟨r, 0, none⟩)] w (DrewPm r (K + 10) w) := by
  have hrl := hR.lt
  go_enter Try.func92, Try.ntmps92
  go_wp2_with fail
  refine (pick_any _ _ _ _ hR (by omega) (by omega) (by omega)).mono ?_
  rintro e w2 ⟨n2, rfl, hn2, hm2, hR2, hg2, hz2⟩
  go_wp2_with fail
  refine (pick_any _ _ _ _ hR2 (by omega) (by omega) (by omega)).mono ?_
  rintro e w3 ⟨n3, rfl, hn3, hm3, hR3, hg3, hz3⟩
  go_wp2_with fail
  refine (pick_any _ _ _ _ hR3 (by omega) (by omega) (by omega)).mono ?_
  rintro e w4 ⟨n4, rfl, hn4, hm4, hR4, hg4, hz4⟩
  have hg14 := grown_trans (grown_trans hg2 hg3) hg4
  have hsz4 := hg14.size
  clear hz2 hz3 hz4
  go_wp2_with fail
  refine (l2Of_any _ _ _ _ (by omega) (by omega) (by omega) (by omega) (by omega) (by omega)).mono ?_
  rintro e w5 ⟨v5, rfl, hO5, hs5⟩
  have hR5 := hR4.kept hs5
  have hg15 := grown_trans hg14 (grown_of_below hs5 (some r))
  have hlen : (ints (hexRow n2.toNat n3.toNat n4.toNat)).length = 6 := by rw [ints_length]; rfl
  have hOw := hO5.mono hsz4
  obtain ⟨g, c5, rfl, hgB, hgl, hgc, -, -, -⟩ := hOw.head (by omega)
  rw [hlen] at hOw hgc ⊢
  have HLEN := Lib.hid hlen
  clear hO5 hlen
  generalize ints (hexRow n2.toNat n3.toNat n4.toNat) = L at *
  go_wp2_with fail
  refine (pick_any _ _ _ _ hR5 (by omega) (by omega) (by omega)).mono ?_
  rintro e w6 ⟨n6, rfl, hn6, hm6, hR6, hg6, hz6⟩
  have hO6 := hOw.read hg6 hrl
  have hg16 := grown_trans hg15 hg6
  clear hz6 hg6 hOw
  by_cases h0 : n6 = 0
  · subst h0
    clear hn6 hm6
    go_wp2_with fail
    refine (pick_any _ _ _ _ hR6 (by omega) (by omega) (by omega)).mono ?_
    rintro e w7 ⟨n7, rfl, hn7, hm7, hR7, hg7, hz7⟩
    go_wp2_with fail
    refine (pick_any _ _ _ _ hR7 (by omega) (by omega) (by omega)).mono ?_
    rintro e w8 ⟨n8, rfl, hn8, hm8, hR8, hg8, hz8⟩
    obtain ⟨q, rfl⟩ := Int.eq_ofNat_of_zero_le hn7
    have hO8 := (hO6.read hg7 hrl).read hg8 hrl
    obtain ⟨hc8, hf8⟩ := hO8.at q (by have := HLEN.out; omega)
    have hg18 := grown_trans (grown_trans hg16 hg7) hg8
    have HS := Lib.hid (hO8.store q)
    clear hz7 hz8 hg7 hg8 hO6 hO8
    generalize L.getD q 0 = x at *
    go_wp2_with fail
    go_ret
    exact ⟨_, L.set q n8, rfl, (HS.out _).1, by rw [List.length_set, HLEN.out]; omega, (hR8.grownO (HS.out _).2 (fun j hj => by cases hj; omega)).mono (by omega), grown_own hg18 (HS.out _).2 (fun j hj => by cases hj; exact hgB)⟩
  by_cases h1 : n6 = 1
  · subst h1
    have HS := Lib.hid (hO6.take' 5 (by omega))
    clear h0 hn6 hm6 hO6
    go_wp2_with fail
    go_ret
    exact ⟨_, L.take 5, rfl, HS.out, by rw [List.length_take]; omega, hR6.mono (by omega), hg16⟩
  by_cases h2 : n6 = 2
  · subst h2
    clear h0 h1 hn6 hm6
    go_wp2_with fail
    refine (pick_any _ _ _ _ hR6 (by omega) (by omega) (by omega)).mono ?_
    rintro e w7 ⟨n7, rfl, hn7, hm7, hR7, hg7, hz7⟩
    go_wp2_with fail
    refine (pick_any _ _ _ _ hR7 (by omega) (by omega) (by omega)).mono ?_
    rintro e w8 ⟨n8, rfl, hn8, hm8, hR8, hg8, hz8⟩
    obtain ⟨q, rfl⟩ := Int.eq_ofNat_of_zero_le hn7
    have hO8 := (hO6.read hg7 hrl).read hg8 hrl
    obtain ⟨hc8, hf8⟩ := hO8.at q (by have := HLEN.out; omega)
    have hg18 := grown_trans (grown_trans hg16 hg7) hg8
    have HS := Lib.hid (hO8.store q)
    clear hz7 hz8 hg7 hg8 hO6 hO8
    generalize L.getD q 0 = x at *
    go_wp2_with fail
    go_ret
    exact ⟨_, L.set q n8, rfl, (HS.out _).1, by rw [List.length_set, HLEN.out]; omega, (hR8.grownO (HS.out _).2 (fun j hj => by cases hj; omega)).mono (by omega), grown_own hg18 (HS.out _).2 (fun j hj => by cases hj; exact hgB)⟩
  have e0 : (n6 == 0) = false := by rw [beq_eq_false_iff_ne]; exact h0
  have e1 : (n6 == 1) = false := by rw [beq_eq_false_iff_ne]; exact h1
  have e2 : (n6 == 2) = false := by rw [beq_eq_false_iff_ne]; exact h2
  have HS := Lib.hid hO6
  clear h0 h1 h2 hO6
  go_wp2_with fail
  go_ret
  exact ⟨_, L, rfl, HS.out, by rw [HLEN.out]; omega, hR6.mono (by omega), hg16⟩
theorem DrawPermHex_any (a : Option Addr) (cap : Nat) (l : List Int) (w : World) (hc : Code w a l cap) :
    Calls Try.prog 40 #[.slice a l.length cap] w fun e w' => ∃ v m, e = .returned v ∧ Owns w.heap.size w' v m ∧ m.length ≤ 24 ∧ Below w.heap.size w w' := by
  go_enter Try.func40, Try.ntmps40
  go_wp2_with fail
  refine (l6Open_any _ _ l _ hc.1 hc.2.1 hc.2.2.1 hc.2.2.2).mono ?_
  rintro e w1 ⟨rfl, hR1, hb1, hz1⟩
  clear hz1
  go_wp2_with fail
  refine (l91Row_any _ _ _ hR1 (by omega)).mono ?_
  rintro e w2 ⟨v2, m, rfl, hO2, hl2, hR2, hg2⟩
  go_wp2_with fail
  go_ret
  exact ⟨_, m, rfl, hO2.mono hb1.size, hl2, drawn_pm hb1 (Nat.le_refl _) hg2⟩

theorem implCodeOf_ok (m : Int) (w : World) (m0 : 0 ≤ m) (m1 : m ≤ 4095) :
    Calls Try.prog 41 #[.int .i64 m] w fun e w' => e = .returned (.tuple #[.int .i64 (code m.toNat : Nat), .bool true]) ∧ Below w.heap.size w w' := by
  have hin : inB m 0 4095 = true := inB_true m0 m1
  have C := Lib.hid (codeOf_any m w m0 m1)
  generalize code m.toNat = c at *
  go_enter Try.func41, Try.ntmps41
  go_wp2_with fail
  refine (within_any _ _ _ _).mono ?_
  rintro e w' ⟨rfl, rfl⟩
  go_wp2_with fail
  refine C.out.mono ?_
  rintro e w1 ⟨rfl, hs1⟩
  go_wp2_with fail
  go_ret2
  exact ⟨rfl, hs1⟩
theorem implCodeScores_ok (n : Int) (w : World) (n0 : 0 ≤ n) (n1 : n ≤ 16777215) :
    Calls Try.prog 36 #[.int .i64 n] w fun e w' => ∃ v, e = .returned (.tuple #[v, .bool true]) ∧ Owns w.heap.size w' v (ints (scl n.toNat)) ∧ Below w.heap.size w w' := by
  have hin : inB n 0 16777215 = true := inB_true n0 n1
  have C := Lib.hid (scores_any n w n0 n1)
  generalize ints (scl n.toNat) = c at *
  go_enter Try.func36, Try.ntmps36
  go_wp2_with fail
  refine (implWordValid_any _ _).mono ?_
  rintro e w' ⟨rfl, rfl⟩
  go_wp2_with fail
  refine C.out.mono ?_
  rintro e w1 ⟨v1, rfl, hO1, hs1⟩
  go_wp2_with fail
  go_ret2
  exact ⟨_, rfl, hO1, hs1⟩

/-- What the law on rows looks at, for the row of three digits. -/
def hexChk (a b c : Nat) : Bool :=
  let P := hexL (hexRow a b c)
  permOk P && (keepB P && (Nat.beq (fxW (tmL P P)) 16777215 && (scl (mvW P (code 39)) == scl (code 39))))
set_option maxRecDepth 100000 in
theorem hex_chk : ∀ a, a < 4 → ∀ b, b < 4 → ∀ c, c < 4 → hexChk a b c = true := by decide +kernel
theorem hexB_facts {l : List Int} (h : hexB l = true) : permOk (hexP l) = true ∧ keepB (hexP l) = true ∧ fxW (tmL (hexP l) (hexP l)) = 16777215 ∧ scl (mvW (hexP l) (code 39)) = scl (code 39) := by
  unfold hexB at h
  rw [Bool.and_eq_true] at h
  obtain ⟨m, rfl, hm, hd⟩ := rowB_nat h.1
  have hx := h.2
  rw [ints_toNat] at hx
  unfold hexIs at hx
  rw [beq_iff_eq] at hx
  have hc := hex_chk (m.getD 0 0) (by have := hd 0; omega) (m.getD 1 0) (by have := hd 1; omega) (m.getD 2 0) (by have := hd 2; omega)
  unfold hexChk at hc
  rw [← hx] at hc
  unfold hexP
  rw [ints_toNat]
  simp only [Bool.and_eq_true, Nat.beq_eq, beq_iff_eq] at hc
  exact ⟨hc.1, hc.2.1, hc.2.2.1, hc.2.2.2⟩

end Go.Proofs.Ytldjlabllhnpjaa
