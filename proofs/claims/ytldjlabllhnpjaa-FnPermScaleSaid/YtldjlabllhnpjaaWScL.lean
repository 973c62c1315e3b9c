/- Contracts of PermScale and HexTimes; the permutations of digits keep the code. -/
import Derived.Test.YtldjlabllhnpjaaWHxL
set_option linter.unusedVariables false
namespace Go.Proofs.Ytldjlabllhnpjaa
open Go.RowKit Res

theorem permScale1_any (c r n bx : Nat) (w : World) (hr : r < 4) (hn : n ≤ 3) (hbx : w.cell? ⟨bx, 0, none⟩ = some (.int .i64 (n : Int))) :
    Calls Try.prog 82 #[.int .i64 (c : Int), .int .i64 (r : Int), .pointer (some ⟨bx, 0, none⟩)] w fun e w' => e = .returned (.int .i64 ((tms r n : Nat) : Int)) ∧ w = w' := by
  have C := Lib.hid (fun w => times_any (r : Int) (n : Int) w (by omega) (by omega) (by omega) (by omega))
  rw [Int.toNat_natCast, Int.toNat_natCast] at C
  generalize tms r n = t at *
  go_enter Try.func82, Try.ntmps82
  go_wp2_with fail
  refine (C.out _).mono ?_
  rintro e w' ⟨rfl, rfl⟩
  go_wp2_with fail
  go_ret
  exact ⟨rfl, rfl⟩

theorem permOfScale_any (bx n : Nat) (w : World) (hn : n ≤ 3) (hbl : bx < w.heap.size) (hbx : w.cell? ⟨bx, 0, none⟩ = some (.int .i64 (n : Int))) :
    Calls Try.prog 71 #[.func (.func 82) #[] #[.pointer (some ⟨bx, 0, none⟩)]] w fun e w' => ∃ v, e = .returned v ∧ Owns w.heap.size w' v (scaleL n) ∧ Below w.heap.size w w' := by
  go_enter Try.func71, Try.ntmps71
  go_wp2_with fail
  go_loopw [3, 7] (fun v x wr => ∃ c : Nat, c ≤ 6 ∧ x = .int .i64 (c : Int) ∧ Owns w.heap.size wr v (scTo' n (4 * c)) ∧ Below w.heap.size w wr)
    (fun _ x _ => (6 - (intOf x).toNat))
  case atStart => exact ⟨0, by omega, rfl, Owns.empty w (Nat.le_refl _), (Below.refl _ _).alloc (Nat.le_refl _) _⟩
  case round =>
    obtain ⟨c, hc, rfl, hO, hbel⟩ := hrel
    by_cases hlt : c < 6
    · have hci : (c : Int) < 6 := by omega
      go_wp2_with fail
      go_loopw [3, 10] (fun v x wr => ∃ r : Nat, r ≤ 4 ∧ x = .int .i64 (r : Int) ∧ Owns w.heap.size wr v (scTo' n (4 * c + r)) ∧ Below w.heap.size w wr)
        (fun _ x _ => (4 - (intOf x).toNat))
      case atStart => exact ⟨0, by omega, rfl, hO, hbel⟩
      case round =>
        obtain ⟨r, hr4, rfl, hO2, hbel2⟩ := hrel
        have hlen := Nat.le_of_eq (scTo'_length n (4 * c + r))
        have hsz := hbel2.size
        by_cases hlt2 : r < 4
        · have hri : (r : Int) < 4 := by omega
          have hbx' : wr.cell? ⟨bx, 0, none⟩ = some (.int .i64 (n : Int)) := by rw [hbel2.cell (p := ⟨bx, 0, none⟩) hbl]; exact hbx
          have D := scTo'_succ n (4 * c + r)
          rw [show (4 * c + r) / 4 = c by omega, show (4 * c + r) % 4 = r by omega] at D
          have CP := Lib.hid (permScale1_any c r n bx wr hlt2 hn hbx')
          have ht := tms_le r n
          generalize tms r n = z at *
          have e0 : ((c * 4 + z : Nat) : Int) = 4 * (c : Int) + (z : Int) := by push_cast; omega
          rw [e0] at D
          have HDD := Lib.hid D
          clear D e0
          go_wp2_with fail
          refine CP.out.mono ?_
          rintro e w' ⟨rfl, rfl⟩
          go_wp2_with (first | (at_builtin; refine wpList_app rfl _ _ rfl w.heap.size _ rfl hO2 rfl (by omega) (by omega) ?_; intro v' w1 hO' hbel' hg'))
          go_roundw
          case rel => exact ⟨r + 1, by omega, by go_num, by rw [show 4 * c + (r + 1) = 4 * c + r + 1 by omega, HDD.out]; exact hO', hbel2.trans hbel'⟩
          case measure => simp [intOf]; omega
        · have HR : Hid (4 * c + r = 4 * (c + 1)) := Lib.hid (by omega)
          rw [HR.out] at hO2
          have hri : (4 : Int) ≤ (r : Int) := by omega
          go_wp2
          go_roundw
          case rel => exact ⟨c + 1, by omega, by go_num, hO2, hbel2⟩
          case measure => simp [intOf]; omega
    · go_wp2
      go_ret
      obtain rfl : c = 6 := by omega
      exact ⟨_, rfl, hO, hbel⟩

theorem implPermScale_no (n : Int) (w : World) (h : inB n 1 3 = false) :
    Calls Try.prog 33 #[.int .i64 n] w fun e w' => ∃ v, e = .returned (.tuple #[v, .bool false]) ∧ Owns w.heap.size w' v [] ∧ Below w.heap.size w w' := by
  have hb1 : Below w.heap.size w (w.alloc (.cells #[.int .i64 n] 3)) := (Below.refl _ _).alloc (Nat.le_refl _) _
  have hcell : (w.alloc (.cells #[.int .i64 n] 3)).cell? ⟨w.heap.size, 0, none⟩ = some (.int .i64 n) := cell_new _ _ _
  go_enter Try.func33, Try.ntmps33
  go_wp2_with fail
  refine (within_any _ _ _ _).mono ?_
  rintro e w' ⟨rfl, rfl⟩
  go_wp2_with fail
  have hO0 := Owns.empty (w.alloc (.cells #[.int .i64 n] 3)) hb1.size
  rw [show (w.alloc (.cells #[.int .i64 n] 3)).heap.size = w.heap.size + 1 from by simp] at hO0
  go_ret2
  exact ⟨_, rfl, hO0, hb1.alloc hb1.size _⟩
theorem implPermScale_ok (n : Int) (w : World) (h : inB n 1 3 = true) :
    Calls Try.prog 33 #[.int .i64 n] w fun e w' => ∃ v, e = .returned (.tuple #[v, .bool true]) ∧ Owns w.heap.size w' v (scaleL n.toNat) ∧ Below w.heap.size w w' := by
  obtain ⟨n1, n3⟩ := inB_iff.1 h
  obtain ⟨n, rfl⟩ := Int.eq_ofNat_of_zero_le (show 0 ≤ n by omega)
  rw [Int.toNat_natCast]
  have hb1 : Below w.heap.size w (w.alloc (.cells #[.int .i64 (n : Int)] 3)) := (Below.refl _ _).alloc (Nat.le_refl _) _
  have hcell : (w.alloc (.cells #[.int .i64 (n : Int)] 3)).cell? ⟨w.heap.size, 0, none⟩ = some (.int .i64 (n : Int)) := cell_new _ _ _
  have CP := Lib.hid (permOfScale_any w.heap.size n (w.alloc (.cells #[.int .i64 (n : Int)] 3)) (by omega) (by simp) hcell)
  have hmf : ∀ (fn : Fn) (first cap : Array Value) (w : World), (Instr.makeFunc fn first cap).run Try.prog w = .ok (.func fn first cap) w := fun _ _ _ _ => rfl
  go_enter Try.func33, Try.ntmps33
  go_wp2_with fail
  refine (within_any _ _ _ _).mono ?_
  rintro e w' ⟨rfl, rfl⟩
  go_wp2_with fail
  refine CP.out.mono ?_
  rintro e w3 ⟨v3, rfl, hO3, hs3⟩
  go_wp2_with fail
  go_ret2
  exact ⟨_, rfl, hO3.mono hb1.size, hb1.trans (hs3.mono hb1.size)⟩
theorem specPermScale_no (n : Int) (w : World) (h : inB n 1 3 = false) :
    Calls Try.prog 34 #[.int .i64 n] w fun e w' => ∃ v, e = .returned (.tuple #[v, .bool false]) ∧ Owns w.heap.size w' v [] ∧ Below w.heap.size w w' := by
  go_enter Try.func34, Try.ntmps34
  go_wp2_with fail
  refine (l6In_any _ _ _ _).mono ?_
  rintro e w' ⟨rfl, rfl⟩
  go_wp2_with fail
  go_ret2
  exact ⟨_, rfl, Owns.empty w (Nat.le_refl _), (Below.refl _ _).alloc (Nat.le_refl _) _⟩

/-- Digits of a row multiplied. -/
def htTo (l : List Nat) (n k : Nat) : List Int := (List.range k).map fun i => ((tms (l.getD i 0) n : Nat) : Int)
theorem htTo_succ (l : List Nat) (n k : Nat) : htTo l n (k + 1) = htTo l n k ++ [((tms (l.getD k 0) n : Nat) : Int)] := by simp [htTo, List.range_succ]
theorem htTo_length (l : List Nat) (n k : Nat) : (htTo l n k).length = k := by simp [htTo]
theorem implHexTimes_ok (a : Option Addr) (cap : Nat) (l : List Nat) (n : Nat) (w : World) (hl : l.length = 6) (hd : ∀ i, l.getD i 0 ≤ 3) (hn : n ≤ 3) (hr : ReadsN w a l) :
    Calls Try.prog 37 #[.slice a 6 cap, .int .i64 (n : Int)] w fun e w' => ∃ v, e = .returned (.tuple #[v, .bool true]) ∧ Owns w.heap.size w' v (htTo l n 6) ∧ Below w.heap.size w w' := by
  have hb1 : Below w.heap.size w (w.alloc (.cells #[] 3)) := (Below.refl _ _).alloc (Nat.le_refl _) _
  have hO0 := Owns.empty w (Nat.le_refl w.heap.size)
  have C1 := Lib.hid (rowOk_any a cap l _ hl hd (hr.kept hb1))
  have hin : inB (n : Int) 0 3 = true := inB_true (by omega) (by omega)
  have HD := Lib.hid hd
  have HL := Lib.hid hl
  clear hd hl
  go_enter Try.func37, Try.ntmps37
  go_wp2_with fail
  refine (C1.out).mono ?_
  rintro e w' ⟨rfl, rfl⟩
  go_wp2_with fail
  refine (digitOk_any _ _).mono ?_
  rintro e w' ⟨rfl, rfl⟩
  go_wp2_with fail
  go_loopw [6, 21] (fun v x wr => ∃ k : Nat, k ≤ 6 ∧ x = .int .i64 (k : Int) ∧ Owns w.heap.size wr v (htTo l n k) ∧ Below w.heap.size w wr)
    (fun _ x _ => (6 - (intOf x).toNat))
  case atStart => exact ⟨0, by omega, rfl, hO0, hb1⟩
  case round =>
    obtain ⟨k, hk, rfl, hO, hbel⟩ := hrel
    have hlen := Nat.le_of_eq (htTo_length l n k)
    have hsz := hbel.size
    by_cases hlt : k < 6
    · have hki : (k : Int) < 6 := by omega
      obtain ⟨b, off, ha, hb, hc⟩ := hr k (by rw [HL.out]; exact hlt)
      subst ha
      have hc' : wr.cell? ⟨b, off + k, none⟩ = some (.int .i64 ((l.getD k 0 : Nat) : Int)) := by rw [hbel.cell (p := ⟨b, off + k, none⟩) hb]; exact hc
      have hd := HD.out k
      have D := Lib.hid (htTo_succ l n k)
      clear hc
      generalize l.getD k 0 = y at *
      have CT := Lib.hid (fun w => times_any (y : Int) (n : Int) w (by omega) (by omega) (by omega) (by omega))
      rw [Int.toNat_natCast, Int.toNat_natCast] at CT
      generalize tms y n = t at *
      go_wp2_with fail
      refine (CT.out _).mono ?_
      rintro e w' ⟨rfl, rfl⟩
      go_wp2_with (first | (at_builtin; refine wpList_app rfl _ _ rfl w.heap.size _ rfl hO rfl (by omega) (by omega) ?_; intro v' w1 hO' hbel' hg'))
      go_roundw
      case rel => exact ⟨k + 1, by omega, by go_num, by rw [D.out]; exact hO', hbel.trans hbel'⟩
      case measure => simp [intOf]; omega
    · go_wp2
      go_ret2
      obtain rfl : k = 6 := by omega
      exact ⟨_, rfl, hO, hbel⟩

theorem DrawPermScale_any (a : Option Addr) (cap : Nat) (l : List Int) (w : World) (hc : Code w a l cap) :
    Calls Try.prog 32 #[.slice a l.length cap] w fun e w' => ∃ n : Int, e = .returned (.int .i64 n) ∧ 0 ≤ n ∧ n ≤ 4 ∧ Below w.heap.size w w' := by
  go_enter Try.func32, Try.ntmps32
  go_wp2_with fail
  refine (l6Open_any _ _ l _ hc.1 hc.2.1 hc.2.2.1 hc.2.2.2).mono ?_
  rintro e w1 ⟨rfl, hR1, hb1, hz1⟩
  clear hz1
  go_wp2_with fail
  refine (pick_any _ _ _ _ hR1 (by omega) (by omega) (by omega)).mono ?_
  rintro e w2 ⟨n2, rfl, hn2, hm2, hR2, hg2, hz2⟩
  go_wp2_with fail
  go_ret
  exact ⟨_, rfl, hn2, by omega, drawn_pm hb1 (Nat.le_refl _) hg2⟩

/-- What the law on digits looks at. -/
def scaleChk (n : Nat) : Bool :=
  let P := scaleL n
  permOk P && (keepB P && (Nat.beq (fxW (tmL (tmL P P) P)) 16777215 && (ints (scl (mvW P 54321)) == htTo (scl 54321) n 6)))
set_option maxRecDepth 100000 in
theorem scale_chk : ∀ n, n < 4 → 1 ≤ n → scaleChk n = true := by decide +kernel
theorem scale_facts {n : Nat} (h1 : 1 ≤ n) (h3 : n < 4) : permOk (scaleL n) = true ∧ keepB (scaleL n) = true ∧ fxW (tmL (tmL (scaleL n) (scaleL n)) (scaleL n)) = 16777215 ∧ ints (scl (mvW (scaleL n) 54321)) = htTo (scl 54321) n 6 := by
  have hc := scale_chk n h3 h1
  unfold scaleChk at hc
  simp only [Bool.and_eq_true, Nat.beq_eq, beq_iff_eq] at hc
  exact ⟨hc.1, hc.2.1, hc.2.2.1, hc.2.2.2⟩

end Go.Proofs.Ytldjlabllhnpjaa
