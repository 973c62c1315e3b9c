/- Contracts of PermOrder. -/
import Derived.Test.YteedbejlbjfkgaaWCyc
import Derived.Test.YteedbejlbjfkgaaOd
set_option linter.unusedVariables false
namespace Go.Proofs.Yteedbejlbjfkgaa
open Go.RowKit Res

theorem divisor_any (a b : Nat) (w : World) (ha : a ≤ 1000000000000) (hb : b ≤ 1000000000000) :
    Calls Try.prog 35 #[.int .i64 (a : Int), .int .i64 (b : Int)] w fun e w' => e = .returned (.int .i64 ((Nat.gcd a b : Nat) : Int)) ∧ ∃ n, w' = w.drewN n := by
  go_enter Try.func35, Try.ntmps35
  go_wp2
  go_loopw [0, 1] (fun x y wr => ∃ m n : Nat, x = .int .i64 (m : Int) ∧ y = .int .i64 (n : Int) ∧ Nat.gcd m n = Nat.gcd a b ∧ m ≤ 1000000000000 ∧ n ≤ 1000000000000 ∧ ∃ nd, wr = w.drewN nd)
    (fun _ y _ => (intOf y).toNat)
  case atStart => exact ⟨a, b, rfl, rfl, rfl, ha, hb, 0, rfl⟩
  case round =>
    obtain ⟨m, n, rfl, rfl, hg, hm, hn, nd, rfl⟩ := hrel
    by_cases h0 : n = 0
    · subst h0
      rw [Nat.gcd_zero_right] at hg
      subst hg
      go_wp2
      go_ret
      exact ⟨rfl, nd, rfl⟩
    · have hr : (m : Int).tmod (n : Int) = ((m % n : Nat) : Int) := by rw [Int.tmod_eq_emod_of_nonneg (by omega)]; push_cast; rfl
      have hrlt : m % n < n := Nat.mod_lt _ (by omega)
      have HG : Hid (Nat.gcd n (m % n) = Nat.gcd a b) := Lib.hid (by rw [← hg, Nat.gcd_comm m n, Nat.gcd_rec n m, Nat.gcd_comm])
      have hne : ((n : Int) == 0) = false := by rw [beq_eq_false_iff_ne]; omega
      have hn0 : (n : Int) ≠ 0 := by omega
      have hw : IntKind.i64.wrap ((m : Int).tmod (n : Int)) = ((m % n : Nat) : Int) := by rw [hr]; exact IntWalk.i64_in _ (by omega)
      clear hg
      generalize m % n = r at *
      go_wp2
      go_quiet (fail)
      go_wp2
      go_roundw
      case rel => exact ⟨n, r, rfl, rfl, HG.out, by omega, by omega, _, World.drewN_drewN _ _ _⟩
      case measure => simp [intOf]; omega
theorem l7Gcd_any (a b : Nat) (w : World) (ha : a ≤ 1000000000000) (hb : b ≤ 1000000000000) :
    Calls Try.prog 49 #[.int .i64 (a : Int), .int .i64 (b : Int)] w fun e w' => e = .returned (.int .i64 ((Nat.gcd a b : Nat) : Int)) ∧ w = w' := by
  go_enter Try.func49, Try.ntmps49
  go_wp2
  go_loop [0, 1] (fun x y => ∃ m n : Nat, x = .int .i64 (m : Int) ∧ y = .int .i64 (n : Int) ∧ Nat.gcd m n = Nat.gcd a b ∧ m ≤ 1000000000000 ∧ n ≤ 1000000000000)
    (fun _ y => (intOf y).toNat)
  case atStart => exact ⟨a, b, rfl, rfl, rfl, ha, hb⟩
  case round =>
    obtain ⟨m, n, rfl, rfl, hg, hm, hn⟩ := hrel
    by_cases h0 : n = 0
    · subst h0
      rw [Nat.gcd_zero_right] at hg
      subst hg
      go_wp2
      go_ret
      exact ⟨rfl, rfl⟩
    · have hr : (m : Int).tmod (n : Int) = ((m % n : Nat) : Int) := by rw [Int.tmod_eq_emod_of_nonneg (by omega)]; push_cast; rfl
      have hrlt : m % n < n := Nat.mod_lt _ (by omega)
      have HG : Hid (Nat.gcd n (m % n) = Nat.gcd a b) := Lib.hid (by rw [← hg, Nat.gcd_comm m n, Nat.gcd_rec n m, Nat.gcd_comm])
      have hne : ((n : Int) == 0) = false := by rw [beq_eq_false_iff_ne]; omega
      have hn0 : (n : Int) ≠ 0 := by omega
      have hw : IntKind.i64.wrap ((m : Int).tmod (n : Int)) = ((m % n : Nat) : Int) := by rw [hr]; exact IntWalk.i64_in _ (by omega)
      clear hg
      generalize m % n = r at *
      go_wp2
      go_round
      case rel => exact ⟨n, r, rfl, by first | rfl | (rw [hr]), HG.out, by omega, by omega⟩
      case measure => simp [intOf]; omega
/-- One step of the common multiple, in Go's own numbers. -/
theorem od_step {l : List Int} (h : ∀ k, k < l.length → 1 ≤ l.getD k 0 ∧ l.getD k 0 ≤ 24) {k : Nat} (hk : k < l.length) :
    ∃ c g q : Nat, l.getD k 0 = (c : Int) ∧ 1 ≤ c ∧ c ≤ 24 ∧ Nat.gcd (odTo l k) c = g ∧ 1 ≤ g ∧ g ≤ 5354228880 ∧ ((odTo l k : Nat) : Int).tdiv (g : Int) = (q : Int) ∧ q ≤ 5354228880 ∧
      (q : Int) * (c : Int) = ((odTo l (k + 1) : Nat) : Int) ∧ odTo l (k + 1) ≤ 5354228880 := by
  obtain ⟨h1, h2⟩ := h k hk
  obtain ⟨o1, o2⟩ := odTo_bd h k (by omega)
  have o3 := odTo_bd h (k + 1) (by omega)
  have ho : odTo l (k + 1) = odTo l k / Nat.gcd (odTo l k) (l.getD k 0).toNat * (l.getD k 0).toNat := rfl
  generalize l.getD k 0 = y at *
  obtain ⟨c, rfl⟩ := Int.eq_ofNat_of_zero_le (show 0 ≤ y by omega)
  rw [Int.toNat_natCast] at ho
  have hg1 : 1 ≤ Nat.gcd (odTo l k) c := Nat.gcd_pos_of_pos_left _ (by omega)
  have hg2 : Nat.gcd (odTo l k) c ≤ odTo l k := Nat.le_of_dvd (by omega) (Nat.gcd_dvd_left _ _)
  have hq := Nat.div_le_self (odTo l k) (Nat.gcd (odTo l k) c)
  refine ⟨c, _, odTo l k / Nat.gcd (odTo l k) c, rfl, by omega, by omega, rfl, hg1, by omega, ?_, by omega, ?_, o3.2⟩
  · rw [Int.tdiv_eq_ediv_of_nonneg (by omega)]
    push_cast
    rfl
  · rw [ho]
    push_cast
    rfl

theorem implPermOrder_no (a : Option Addr) (cap : Nat) (p : List Int) (w : World) (hl : p.length ≤ 9223372036854775807) (hr : Reads .i64 w a p) (h : permOk p = false) :
    Calls Try.prog 11 #[.slice a p.length cap] w fun e w' => e = .returned (.tuple #[.int .i64 0, .bool false]) ∧ Below w.heap.size w w' := by
  have C1 := Lib.hid (implPermCycles_no a cap p w hl hr h)
  clear h
  go_enter Try.func11, Try.ntmps11
  go_wp2_with fail
  refine C1.out.mono ?_
  rintro e w1 ⟨v, rfl, hO, hb⟩
  go_wp2_with fail
  go_ret2
  exact ⟨rfl, hb⟩
theorem implPermOrder_ok (a : Option Addr) (cap : Nat) (p : List Int) (w : World) (hr : Reads .i64 w a p) (h : permOk p = true) :
    Calls Try.prog 11 #[.slice a p.length cap] w fun e w' => e = .returned (.tuple #[.int .i64 ((odL (cyL p) : Nat) : Int), .bool true]) ∧ Below w.heap.size w w' := by
  obtain ⟨hl, hok⟩ := permOk_ok h
  have C1 := Lib.hid (implPermCycles_ok a cap p w hr h)
  have HR : Hid (∀ k, k < (cyL p).length → 1 ≤ (cyL p).getD k 0 ∧ (cyL p).getD k 0 ≤ 24) := Lib.hid (fun k hk => cyL_range hok hk)
  have hlen := cyL_length p
  have HE : Hid (odL (cyL p) = odTo (cyL p) (cyL p).length) := Lib.hid rfl
  have HZ : Hid (odTo (cyL p) 0 = 1) := Lib.hid rfl
  generalize odL (cyL p) = O at *
  generalize cyL p = L at *
  clear h hok hl
  go_enter Try.func11, Try.ntmps11
  go_wp2_with fail
  refine C1.out.mono ?_
  rintro e w1 ⟨v, rfl, hO, hb⟩
  obtain ⟨a1, c1, rfl, hR1, hl1, hc1⟩ := hO.shape
  clear hO
  go_wp2_with fail
  go_loopw [6, 18] (fun s x wr => ∃ k : Nat, k ≤ L.length ∧ x = .int .i64 (k : Int) ∧ s = .int .i64 ((odTo L k : Nat) : Int) ∧ ∃ n, wr = w1.drewN n)
    (fun _ x _ => (L.length - (intOf x).toNat))
  case atStart => exact ⟨0, by omega, rfl, by rw [HZ.out]; rfl, 0, rfl⟩
  case round =>
    obtain ⟨k, hk, rfl, rfl, nd, rfl⟩ := hrel
    by_cases hlt : k < L.length
    · have hki : (k : Int) < (L.length : Int) := by omega
      obtain ⟨b, off, ha, hbl, hcl⟩ := hR1 k hlt
      obtain ⟨c, g, q, e1, hc1, hc2, e2, hg1, hg2, e3, hq, e4, ho⟩ := od_step HR.out hlt
      have hod := (odTo_bd HR.out k hk).2
      subst ha
      rw [e1] at hcl
      have HN : Hid ((q : Int) * (c : Int) = ((odTo L (k + 1) : Nat) : Int)) := Lib.hid e4
      have CD := Lib.hid (fun w => divisor_any (odTo L k) c w (by omega) (by omega))
      rw [e2] at CD
      have hw1 : IntKind.i64.wrap (((odTo L k : Nat) : Int).tdiv (g : Int)) = (q : Int) := by rw [e3]; exact IntWalk.i64_in _ (by omega)
      have hw2 : IntKind.i64.wrap ((q : Int) * (c : Int)) = (q : Int) * (c : Int) := IntWalk.i64_in _ (by omega)
      have hp0 : 0 ≤ (q : Int) * (c : Int) := by omega
      have hp1 : (q : Int) * (c : Int) ≤ 5354228880 := by omega
      have hgne : ((g : Int) == 0) = false := by rw [beq_eq_false_iff_ne]; omega
      have hgn0 : (g : Int) ≠ 0 := by omega
      clear e4 e2 e1 ho
      generalize odTo L k = m at *
      go_wp2_with fail
      refine (CD.out _).mono ?_
      rintro e w' ⟨rfl, nd2, rfl⟩
      go_wp2_with fail
      go_roundw
      case rel => exact ⟨k + 1, by omega, by go_num, by rw [← HN.out], _, rfl⟩
      case measure => simp [intOf]; omega
    · obtain rfl : k = L.length := by omega
      clear hlt hk
      go_wp2_with fail
      go_ret2
      exact ⟨by rw [HE.out]; rfl, below_drewN hb _⟩
theorem specPermOrder_no (a : Option Addr) (cap : Nat) (p : List Int) (w : World) (hl : p.length ≤ 9223372036854775807) (hr : Reads .i64 w a p) (h : permOk p = false) :
    Calls Try.prog 22 #[.slice a p.length cap] w fun e w' => e = .returned (.tuple #[.int .i64 0, .bool false]) ∧ Below w.heap.size w w' := by
  have C1 := Lib.hid (specPermValid_any a cap p w hl hr)
  rw [h] at C1
  clear h
  go_enter Try.func22, Try.ntmps22
  go_wp2_with fail
  refine (C1.out).mono ?_
  rintro e w' ⟨rfl, rfl⟩
  go_wp2_with fail
  go_ret2
  exact ⟨rfl, Below.refl _ _⟩
theorem specPermOrder_ok (a : Option Addr) (cap : Nat) (p : List Int) (w : World) (hr : Reads .i64 w a p) (h : permOk p = true) :
    Calls Try.prog 22 #[.slice a p.length cap] w fun e w' => e = .returned (.tuple #[.int .i64 ((odL (cyL p) : Nat) : Int), .bool true]) ∧ Below w.heap.size w w' := by
  obtain ⟨hl, hok⟩ := permOk_ok h
  have C0 := Lib.hid (specPermValid_any a cap p w (by omega) hr)
  rw [h] at C0
  have C1 := Lib.hid (l7Cycles_ok a cap p w hr h)
  have HR : Hid (∀ k, k < (cyL p).length → 1 ≤ (cyL p).getD k 0 ∧ (cyL p).getD k 0 ≤ 24) := Lib.hid (fun k hk => cyL_range hok hk)
  have hlen := cyL_length p
  have HE : Hid (odL (cyL p) = odTo (cyL p) (cyL p).length) := Lib.hid rfl
  have HZ : Hid (odTo (cyL p) 0 = 1) := Lib.hid rfl
  generalize odL (cyL p) = O at *
  generalize cyL p = L at *
  clear h hok hl
  go_enter Try.func22, Try.ntmps22
  go_wp2_with fail
  refine (C0.out).mono ?_
  rintro e w' ⟨rfl, rfl⟩
  go_wp2_with fail
  refine C1.out.mono ?_
  rintro e w1 ⟨v, rfl, hO, hb⟩
  obtain ⟨a1, c1, rfl, hR1, hl1, hc1⟩ := hO.shape
  clear hO
  go_wp2_with fail
  go_loopw [4, 6] (fun s x wr => ∃ k : Nat, k ≤ L.length ∧ x = .int .i64 (k : Int) ∧ s = .int .i64 ((odTo L k : Nat) : Int) ∧ ∃ n, wr = w1.drewN n)
    (fun _ x _ => (L.length - (intOf x).toNat))
  case atStart => exact ⟨0, by omega, rfl, by rw [HZ.out]; rfl, 0, rfl⟩
  case round =>
    obtain ⟨k, hk, rfl, rfl, hwr⟩ := hrel
    by_cases hlt : k < L.length
    · have hki : (k : Int) < (L.length : Int) := by omega
      obtain ⟨b, off, ha, hbl, hcl⟩ := hR1 k hlt
      obtain ⟨c, g, q, e1, hc1, hc2, e2, hg1, hg2, e3, hq, e4, ho⟩ := od_step HR.out hlt
      have hod := (odTo_bd HR.out k hk).2
      subst ha
      rw [e1] at hcl
      have hcl : wr.cell? ⟨b, off + k, none⟩ = some (.int .i64 (c : Int)) := by obtain ⟨nd, rfl⟩ := hwr; exact hcl
      have HW := Lib.hid hwr
      clear hwr
      have HN : Hid ((q : Int) * (c : Int) = ((odTo L (k + 1) : Nat) : Int)) := Lib.hid e4
      have CD := Lib.hid (fun w => l7Gcd_any (odTo L k) c w (by omega) (by omega))
      rw [e2] at CD
      have hw1 : IntKind.i64.wrap (((odTo L k : Nat) : Int).tdiv (g : Int)) = (q : Int) := by rw [e3]; exact IntWalk.i64_in _ (by omega)
      have hw2 : IntKind.i64.wrap ((q : Int) * (c : Int)) = (q : Int) * (c : Int) := IntWalk.i64_in _ (by omega)
      have hp0 : 0 ≤ (q : Int) * (c : Int) := by omega
      have hp1 : (q : Int) * (c : Int) ≤ 5354228880 := by omega
      have hgne : ((g : Int) == 0) = false := by rw [beq_eq_false_iff_ne]; omega
      have hgn0 : (g : Int) ≠ 0 := by omega
      clear e4 e2 e1 ho
      generalize odTo L k = m at *
      go_wp2
      go_quiet (first | (go_at_call 49; refine Calls.quiet_of_same ((CD.out _).mono (by rintro e w' ⟨rfl, rfl⟩; exact ⟨rfl, rfl⟩))))
      go_wp2
      go_roundw
      case rel => exact ⟨k + 1, by omega, by go_num, by rw [← HN.out], by obtain ⟨nd, e⟩ := HW.out; exact ⟨nd + nq, by rw [e]; exact World.drewN_drewN _ _ _⟩⟩
      case measure => simp [intOf]; omega
    · obtain rfl : k = L.length := by omega
      obtain ⟨nd, rfl⟩ := hwr
      clear hlt hk
      go_wp2_with fail
      go_ret2
      exact ⟨by rw [HE.out]; rfl, below_drewN hb _⟩

end Go.Proofs.Yteedbejlbjfkgaa
