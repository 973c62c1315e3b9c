/- Contracts of the draws of permutations. -/
import Derived.Test.YteedbejlbjfkgaaWPlc
import Derived.Test.YteedbejlbjfkgaaWHexIn
import Derived.Test.YteedbejlbjfkgaaWLm
import Derived.Test.YteedbejlbjfkgaaPt
set_option linter.unusedVariables false
namespace Go.Proofs.Yteedbejlbjfkgaa
open Go.RowKit Res

/-- Digits multiplied, the first k places. -/
def scTo' (n k : Nat) : List Int := (List.range k).map fun i => ((i / 4 * 4 + tms (i % 4) n : Nat) : Int)
theorem scTo'_succ (n k : Nat) : scTo' n (k + 1) = scTo' n k ++ [((k / 4 * 4 + tms (k % 4) n : Nat) : Int)] := by simp [scTo', List.range_succ]
theorem scTo'_length (n k : Nat) : (scTo' n k).length = k := by simp [scTo']
def scaleL (n : Nat) : List Int := scTo' n 24
/-- Digits added, the first k places. -/
def hxTo (row : List Nat) (k : Nat) : List Int := (List.range k).map fun i => ((i / 4 * 4 + (i % 4 ^^^ row.getD (i / 4) 0) : Nat) : Int)
theorem hxTo_succ (row : List Nat) (k : Nat) : hxTo row (k + 1) = hxTo row k ++ [((k / 4 * 4 + (k % 4 ^^^ row.getD (k / 4) 0) : Nat) : Int)] := by simp [hxTo, List.range_succ]
theorem hxTo_length (row : List Nat) (k : Nat) : (hxTo row k).length = k := by simp [hxTo]
def hexL (row : List Nat) : List Int := hxTo row 24

theorem specPermScale_ok (n : Int) (w : World) (n1 : 1 ≤ n) (n3 : n ≤ 3) :
    Calls Try.prog 67 #[.int .i64 n] w fun e w' => ∃ v, e = .returned (.tuple #[v, .bool true]) ∧ Owns w.heap.size w' v (scaleL n.toNat) ∧ Below w.heap.size w w' := by
  obtain ⟨n, rfl⟩ := Int.eq_ofNat_of_zero_le (show 0 ≤ n by omega)
  rw [Int.toNat_natCast]
  have hin : inB (n : Int) 1 3 = true := inB_true n1 n3
  go_enter Try.func67, Try.ntmps67
  go_wp2_with fail
  refine (l6In_any _ _ _ _).mono ?_
  rintro e w' ⟨rfl, rfl⟩
  go_wp2_with fail
  go_loopw [4, 5] (fun v x wr => ∃ k : Nat, k ≤ 24 ∧ x = .int .i64 (k : Int) ∧ Owns w.heap.size wr v (scTo' n k) ∧ Below w.heap.size w wr)
    (fun _ x _ => (24 - (intOf x).toNat))
  case atStart => exact ⟨0, by omega, rfl, Owns.empty w (Nat.le_refl _), (Below.refl _ _).alloc (Nat.le_refl _) _⟩
  case round =>
    obtain ⟨k, hk, rfl, hO, hbel⟩ := hrel
    have hlen := Nat.le_of_eq (scTo'_length n k)
    have hsz := hbel.size
    by_cases hlt : k < 24
    · have hki : (k : Int) < 24 := by omega
      have CT := Lib.hid (fun w => l2Times_any ((k : Int) % 4) (n : Int) w (by omega) (by omega) (by omega) (by omega))
      rw [show ((k : Int) % 4).toNat = k % 4 by omega, Int.toNat_natCast] at CT
      have ht := tms_le (k % 4) n
      have D := Lib.hid (scTo'_succ n k)
      generalize tms (k % 4) n = t at *
      go_wp2_with fail
      refine (CT.out _).mono ?_
      rintro e w' ⟨rfl, rfl⟩
      have e0 : (((k / 4 * 4 + t : Nat)) : Int) = (k : Int) / 4 * 4 + (t : Int) := by omega
      rw [e0] at D
      clear e0
      go_wp2_with (first | (at_builtin; refine wpList_app rfl _ _ rfl w.heap.size _ rfl hO rfl (by omega) (by omega) ?_; intro v' w1 hO' hbel' hg'))
      go_roundw
      case rel => exact ⟨k + 1, by omega, by go_num, by rw [D.out]; exact hO', hbel.trans hbel'⟩
      case measure => simp [intOf]; omega
    · go_wp2
      go_ret2
      obtain rfl : k = 24 := by omega
      exact ⟨_, rfl, hO, hbel⟩

theorem specPermHex_ok (a : Option Addr) (cap : Nat) (row : List Nat) (w : World) (hl : row.length = 6) (hd : ∀ i, row.getD i 0 ≤ 3) (hr : ReadsN w a row) (hx : hexIs row = true) :
    Calls Try.prog 68 #[.slice a 6 cap] w fun e w' => ∃ v, e = .returned (.tuple #[v, .bool true]) ∧ Owns w.heap.size w' v (hexL row) ∧ Below w.heap.size w w' := by
  have hb1 : Below w.heap.size w (w.alloc (.cells #[] 3)) := (Below.refl _ _).alloc (Nat.le_refl _) _
  have hO0 := Owns.empty w (Nat.le_refl w.heap.size)
  have C1 := Lib.hid (specHexIn_any a cap row _ hl hd (hr.kept hb1))
  rw [hx] at C1
  have HD := Lib.hid hd
  have HL := Lib.hid hl
  clear hx hd hl
  go_enter Try.func68, Try.ntmps68
  go_wp2_with fail
  refine C1.out.mono ?_
  rintro e w2 ⟨rfl, hs2⟩
  have hO2 := hO0.kept hs2
  have hb2 := hb1.trans (hs2.mono hb1.size)
  go_wp2_with fail
  go_loopw [4, 5] (fun v x wr => ∃ k : Nat, k ≤ 24 ∧ x = .int .i64 (k : Int) ∧ Owns w.heap.size wr v (hxTo row k) ∧ Below w.heap.size w wr)
    (fun _ x _ => (24 - (intOf x).toNat))
  case atStart => exact ⟨0, by omega, rfl, hO2, hb2⟩
  case round =>
    obtain ⟨k, hk, rfl, hO, hbel⟩ := hrel
    have hlen := Nat.le_of_eq (hxTo_length row k)
    have hsz := hbel.size
    by_cases hlt : k < 24
    · have hki : (k : Int) < 24 := by omega
      obtain ⟨b, off, ha, hb, hc⟩ := hr (k / 4) (by rw [HL.out]; omega)
      subst ha
      have hc' : wr.cell? ⟨b, off + k / 4, none⟩ = some (.int .i64 ((row.getD (k / 4) 0 : Nat) : Int)) := by rw [hbel.cell (p := ⟨b, off + k / 4, none⟩) hb]; exact hc
      have hd := HD.out (k / 4)
      have D := Lib.hid (hxTo_succ row k)
      clear hc
      generalize row.getD (k / 4) 0 = y at *
      obtain ⟨q, hq⟩ : ∃ q, q = k / 4 := ⟨_, rfl⟩
      have hqi : (k : Int) / 4 = (q : Int) := by omega
      have hq6 : (q : Int) < 6 := by omega
      rw [← hq] at hc' D
      have hxl : k % 4 ^^^ y < 2 ^ 2 := Nat.xor_lt_two_pow (by omega) (by omega)
      have hxr : bits .xor .i64 ((k : Int) % 4) (y : Int) = ((k % 4 ^^^ y : Nat) : Int) := by
        rw [show ((k : Int) % 4) = ((k % 4 : Nat) : Int) by omega]; exact i64_xor _ _ (by omega) (by omega)
      have e0 : (((q * 4 + (k % 4 ^^^ y) : Nat)) : Int) = (q : Int) * 4 + ((k % 4 ^^^ y : Nat) : Int) := by push_cast; rfl
      rw [e0] at D
      clear e0 hq
      generalize k % 4 ^^^ y = z at *
      go_wp2_with (first | (at_builtin; refine wpList_app rfl _ _ rfl w.heap.size _ rfl hO rfl (by omega) (by omega) ?_; intro v' w1 hO' hbel' hg'))
      go_roundw
      case rel => exact ⟨k + 1, by omega, by go_num, by rw [D.out]; exact hO', hbel.trans hbel'⟩
      case measure => simp [intOf]; omega
    · go_wp2
      go_ret2
      obtain rfl : k = 24 := by omega
      exact ⟨_, rfl, hO, hbel⟩

theorem hexIs_row (a b c : Nat) : hexIs (hexRow a b c) = true := by
  have h : hexIs (hexRow a b c) = (hexRow a b c == hexRow a b c) := rfl
  rw [h]
  exact beq_self_eq_true _

/-- A drawn permutation. -/
def DrewPm (r K : Nat) (w : World) (e : Ending) (w' : World) : Prop :=
  ∃ (v : Value) (l : List Int), e = .returned v ∧ Owns w.heap.size w' v l ∧ l.length ≤ 24 ∧ Reader w' r K ∧ w.grownBy w' (some r)

set_option maxHeartbeats 1000000 in
theorem l92Perm_any (r K : Nat) (w : World) (hR : Reader w r K) (hK : K ≤ 600000) :
    Calls Try.prog 43 #[.pointer (some ⟨r, 0, none⟩)] w (DrewPm r (K + 40) w) := by
  have hrl := hR.lt
  have hR0 := hR.kept ((Below.refl w.heap.size w).alloc (Nat.le_refl _) (.cells #[] 3))
  have hg0 := grown_of_below ((Below.refl w.heap.size w).alloc (Nat.le_refl _) (.cells #[] 3)) (some r)
  go_enter Try.func43, Try.ntmps43
  go_wp2_with fail
  refine (pick_any _ _ _ _ hR0 (by omega) (by omega) (by omega)).mono ?_
  rintro e w1 ⟨n1, rfl, hn1, hm1, hR1, hg1, hz1⟩
  have hg01 := grown_trans hg0 hg1
  have hsz1 := hg01.size
  clear hz1
  by_cases h0 : n1 = 0
  · subst h0
    clear hn1 hm1
    go_wp2_with fail
    refine (pick_any _ _ _ _ hR1 (by omega) (by omega) (by omega)).mono ?_
    rintro e w2 ⟨n2, rfl, hn2, hm2, hR2, hg2, hz2⟩
    have hsz2 := hg2.size
    clear hz2
    go_wp2_with fail
    refine (specPermScale_ok _ _ (by omega) (by omega)).mono ?_
    rintro e w3 ⟨v3, rfl, hO3, hs3⟩
    have HO := Lib.hid (hO3.mono (B' := w.heap.size) (by omega))
    clear hO3
    go_wp2_with fail
    go_ret
    exact ⟨_, _, rfl, HO.out, Nat.le_of_eq (scTo'_length _ _), (hR2.kept hs3).mono (by omega), grown_trans (grown_trans hg01 hg2) (grown_of_below hs3 _)⟩
  by_cases h1 : n1 = 1
  · subst h1
    clear h0 hn1 hm1
    go_wp2_with fail
    refine (pick_any _ _ _ _ hR1 (by omega) (by omega) (by omega)).mono ?_
    rintro e w2 ⟨n2, rfl, hn2, hm2, hR2, hg2, hz2⟩
    go_wp2_with fail
    refine (pick_any _ _ _ _ hR2 (by omega) (by omega) (by omega)).mono ?_
    rintro e w3 ⟨n3, rfl, hn3, hm3, hR3, hg3, hz3⟩
    go_wp2_with fail
    refine (pick_any _ _ _ _ hR3 (by omega) (by omega) (by omega)).mono ?_
    rintro e w4 ⟨n4, rfl, hn4, hm4, hR4, hg4, hz4⟩
    have hg14 := grown_trans (grown_trans (grown_trans hg01 hg2) hg3) hg4
    have hsz4 := hg14.size
    clear hz2 hz3 hz4
    have hrow := hexRow_le (a := n2.toNat) (b := n3.toNat) (c := n4.toNat) (by omega) (by omega) (by omega)
    go_wp2_with fail
    refine (l2Of_any _ _ _ _ (by omega) (by omega) (by omega) (by omega) (by omega) (by omega)).mono ?_
    rintro e w5 ⟨v5, rfl, hO5, hs5⟩
    obtain ⟨a5, c5, rfl, hR5, hl5, hc5⟩ := hO5.shapeN
    have CP := Lib.hid (specPermHex_ok a5 c5 (hexRow n2.toNat n3.toNat n4.toNat) w5 rfl hrow hR5 (hexIs_row _ _ _))
    have hsz5 := hs5.size
    rw [show (hexRow n2.toNat n3.toNat n4.toNat).length = 6 from rfl]
    clear hO5 hR5 hl5 hrow
    go_wp2_with fail
    refine CP.out.mono ?_
    rintro e w6 ⟨v6, rfl, hO6, hs6⟩
    have HO := Lib.hid (hO6.mono (B' := w.heap.size) (by omega))
    clear hO6
    go_wp2_with fail
    go_ret
    exact ⟨_, _, rfl, HO.out, Nat.le_of_eq (hxTo_length _ _), ((hR4.kept hs5).kept hs6).mono (by omega), grown_trans (grown_trans hg14 (grown_of_below hs5 _)) (grown_of_below hs6 _)⟩
  by_cases h2 : n1 = 2
  · subst h2
    clear h0 h1 hn1 hm1
    go_wp2_with fail
    refine (pick_any _ _ _ _ hR1 (by omega) (by omega) (by omega)).mono ?_
    rintro e w2 ⟨n2, rfl, hn2, hm2, hR2, hg2, hz2⟩
    go_wp2_with fail
    refine (pick_any _ _ _ _ hR2 (by omega) (by omega) (by omega)).mono ?_
    rintro e w3 ⟨n3, rfl, hn3, hm3, hR3, hg3, hz3⟩
    go_wp2_with fail
    refine (pick_any _ _ _ _ hR3 (by omega) (by omega) (by omega)).mono ?_
    rintro e w4 ⟨n4, rfl, hn4, hm4, hR4, hg4, hz4⟩
    go_wp2_with fail
    refine (pick_any _ _ _ _ hR4 (by omega) (by omega) (by omega)).mono ?_
    rintro e w5 ⟨n5, rfl, hn5, hm5, hR5, hg5, hz5⟩
    have hg15 := grown_trans (grown_trans (grown_trans (grown_trans hg01 hg2) hg3) hg4) hg5
    have hsz5 := hg15.size
    clear hz2 hz3 hz4 hz5
    cases hv : mOk n2 n3 n4 n5
    · have CN := Lib.hid (fun w => specLinePerm_no n2 n3 n4 n5 w hv)
      clear hv
      go_wp2_with fail
      refine (CN.out _).mono ?_
      rintro e w6 ⟨v6, rfl, -, hs6⟩
      have hR6 := hR5.kept hs6
      have hg16 := grown_trans hg15 (grown_of_below hs6 _)
      have hsz6 := hg16.size
      go_wp2_with fail
      refine (l91Places_any r _ 24 w6 hR6 (by omega) (by omega) (by omega)).mono ?_
      rintro e w7 ⟨v7, l, rfl, hO7, hl, hR7, hg7⟩
      have HO := Lib.hid (hO7.mono (B' := w.heap.size) hsz6)
      have HLl := Lib.hid hl
      clear hO7 hl
      go_wp2_with fail
      go_ret
      exact ⟨_, l, rfl, HO.out, Nat.le_of_eq HLl.out, hR7.mono (by omega), grown_trans hg16 hg7⟩
    · have CN := Lib.hid (fun w => specLinePerm_ok n2 n3 n4 n5 w hv)
      clear hv
      go_wp2_with fail
      refine (CN.out _).mono ?_
      rintro e w6 ⟨v6, rfl, hO6, hs6⟩
      have HO := Lib.hid (hO6.mono (B' := w.heap.size) hsz5)
      clear hO6
      go_wp2_with fail
      go_ret
      exact ⟨_, _, rfl, HO.out, by rw [ints_length]; simp [lp], (hR5.kept hs6).mono (by omega), grown_trans hg15 (grown_of_below hs6 _)⟩
  have e0 : (n1 == 0) = false := by rw [beq_eq_false_iff_ne]; exact h0
  have e1 : (n1 == 1) = false := by rw [beq_eq_false_iff_ne]; exact h1
  have e2 : (n1 == 2) = false := by rw [beq_eq_false_iff_ne]; exact h2
  clear h0 h1 h2
  go_wp2_with fail
  refine (l91Places_any r _ 24 w1 hR1 (by omega) (by omega) (by omega)).mono ?_
  rintro e w7 ⟨v7, l, rfl, hO7, hl, hR7, hg7⟩
  have HO := Lib.hid (hO7.mono (B' := w.heap.size) hsz1)
  have HLl := Lib.hid hl
  clear hO7 hl
  go_wp2_with fail
  go_ret
  exact ⟨_, l, rfl, HO.out, Nat.le_of_eq HLl.out, hR7.mono (by omega), grown_trans hg01 hg7⟩

theorem drawn_pm {r : Nat} {w w1 w2 : World} (hb1 : Below w.heap.size w w1) (hr : w.heap.size ≤ r) (hg : w1.grownBy w2 (some r)) : Below w.heap.size w w2 :=
  hb1.grown hg hb1.size (by rintro k hk; cases hk; exact hr)
theorem DrawPermOrder_any (a : Option Addr) (cap : Nat) (l : List Int) (w : World) (hc : Code w a l cap) :
    Calls Try.prog 21 #[.slice a l.length cap] w fun e w' => ∃ v m, e = .returned v ∧ Owns w.heap.size w' v m ∧ m.length ≤ 24 ∧ Below w.heap.size w w' := by
  go_enter Try.func21, Try.ntmps21
  go_wp2_with fail
  refine (l6Open_any _ _ l _ hc.1 hc.2.1 hc.2.2.1 hc.2.2.2).mono ?_
  rintro e w1 ⟨rfl, hR1, hb1, hz1⟩
  clear hz1
  go_wp2_with fail
  refine (l92Perm_any _ _ _ hR1 (by omega)).mono ?_
  rintro e w2 ⟨v2, m, rfl, hO2, hl2, hR2, hg2⟩
  go_wp2_with fail
  go_ret
  exact ⟨_, m, rfl, hO2.mono hb1.size, hl2, drawn_pm hb1 (Nat.le_refl _) hg2⟩
theorem DrawPermFixed_any (a : Option Addr) (cap : Nat) (l : List Int) (w : World) (hc : Code w a l cap) :
    Calls Try.prog 15 #[.slice a l.length cap] w fun e w' => ∃ v m, e = .returned v ∧ Owns w.heap.size w' v m ∧ m.length ≤ 24 ∧ Below w.heap.size w w' := by
  go_enter Try.func15, Try.ntmps15
  go_wp2_with fail
  refine (l6Open_any _ _ l _ hc.1 hc.2.1 hc.2.2.1 hc.2.2.2).mono ?_
  rintro e w1 ⟨rfl, hR1, hb1, hz1⟩
  clear hz1
  go_wp2_with fail
  refine (l92Perm_any _ _ _ hR1 (by omega)).mono ?_
  rintro e w2 ⟨v2, m, rfl, hO2, hl2, hR2, hg2⟩
  go_wp2_with fail
  go_ret
  exact ⟨_, m, rfl, hO2.mono hb1.size, hl2, drawn_pm hb1 (Nat.le_refl _) hg2⟩
theorem DrawPermKeeps_any (a : Option Addr) (cap : Nat) (l : List Int) (w : World) (hc : Code w a l cap) :
    Calls Try.prog 24 #[.slice a l.length cap] w fun e w' => ∃ v m, e = .returned v ∧ Owns w.heap.size w' v m ∧ m.length ≤ 24 ∧ Below w.heap.size w w' := by
  go_enter Try.func24, Try.ntmps24
  go_wp2_with fail
  refine (l6Open_any _ _ l _ hc.1 hc.2.1 hc.2.2.1 hc.2.2.2).mono ?_
  rintro e w1 ⟨rfl, hR1, hb1, hz1⟩
  clear hz1
  go_wp2_with fail
  refine (l92Perm_any _ _ _ hR1 (by omega)).mono ?_
  rintro e w2 ⟨v2, m, rfl, hO2, hl2, hR2, hg2⟩
  go_wp2_with fail
  go_ret
  exact ⟨_, m, rfl, hO2.mono hb1.size, hl2, drawn_pm hb1 (Nat.le_refl _) hg2⟩

end Go.Proofs.Yteedbejlbjfkgaa
