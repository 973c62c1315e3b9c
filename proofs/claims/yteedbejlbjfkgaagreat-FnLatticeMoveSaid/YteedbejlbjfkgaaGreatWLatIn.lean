/- Contracts of LatticeIn. -/
import Derived.Test.YteedbejlbjfkgaaGreatWCode
import Derived.Test.YteedbejlbjfkgaaGreatWVec
import Derived.Test.YteedbejlbjfkgaaGreatPl
import Derived.Test.YteedbejlbjfkgaaGreatWMark
import Derived.StillTailTactics
set_option linter.unusedVariables false
namespace Go.Proofs.YteedbejlbjfkgaaGreat
open Go.RowKit Res

theorem mod_twice (n m : Int) (m0 : 0 < m) (m1 : m ≤ 100) : (wrap64 (n.tmod m + m)).tmod m = n % m := by
  have h := tmod_cases n m m0
  have h1 := Int.emod_nonneg n (show m ≠ 0 by omega)
  have h2 := Int.emod_lt_of_pos n m0
  have h3 := Int.emod_nonneg (-n) (show m ≠ 0 by omega)
  have h4 := Int.emod_lt_of_pos (-n) m0
  have hp : 0 ≤ n.tmod m + m := by rcases h with ⟨h0, e⟩ | ⟨h0, e⟩ <;> omega
  have hq : n.tmod m + m ≤ 200 := by rcases h with ⟨h0, e⟩ | ⟨h0, e⟩ <;> omega
  have hw : wrap64 (n.tmod m + m) = n.tmod m + m := by
    obtain ⟨t, ht⟩ := Int.eq_ofNat_of_zero_le hp
    rw [ht]
    exact wrap64_nat t (by omega)
  rw [hw, Int.tmod_eq_emod_of_nonneg (by omega), Int.add_emod_right]
  rcases h with ⟨h0, e⟩ | ⟨h0, e⟩
  · rw [e, Int.emod_emod_of_dvd _ (Int.dvd_refl m)]
  · rw [e]
    have e2 : (-((-n) % m)) % m = n % m := by
      have h5 : n = -((-n) % m) + m * (-((-n) / m)) := by
        have := Int.emod_add_mul_ediv (-n) m
        rw [Int.mul_neg]
        omega
      conv => rhs; rw [h5]
      rw [Int.add_mul_emod_self_left]
    exact e2

theorem modulo_any (n m : Int) (w : World) (m0 : 0 < m) (m1 : m ≤ 100) :
    Calls Tryz.prog 23 #[.int .i64 n, .int .i64 m] w fun e w' => e = .returned (.int .i64 (n % m)) ∧ w = w' := by
  have H := Lib.hid (mod_twice n m m0 m1)
  have hm : (m == 0) = false := by rw [beq_eq_false_iff_ne]; omega
  go_enter Tryz.func23, Tryz.ntmps23
  go_wp2
  go_ret
  exact ⟨ret_int H.out, rfl⟩
/-- Block g is an array of four ints. -/
def IsArr (w : World) (g : Nat) (f : Nat → Nat) : Prop :=
  w.heap[g]? = some (.cells #[.int .i64 (f 0 : Nat), .int .i64 (f 1 : Nat), .int .i64 (f 2 : Nat), .int .i64 (f 3 : Nat)] 40 (0, 0))
theorem IsArr.at {w : World} {g : Nat} {f : Nat → Nat} (h : IsArr w g f) (q : Nat) (hq : q < 4) : w.cell? ⟨g, q, none⟩ = some (.int .i64 (f q : Nat)) ∧ w.frozen? ⟨g, q, none⟩ = false := by
  refine ⟨?_, frozen_of_row w g q _ _ h⟩
  rw [cell_of_row w g q _ _ _ h]
  match q, hq with
  | 0, _ => rfl
  | 1, _ => rfl
  | 2, _ => rfl
  | 3, _ => rfl
theorem IsArr.store {w : World} {g : Nat} {f : Nat → Nat} (h : IsArr w g f) (q : Nat) (hq : q < 4) (y : Nat) : IsArr (w.setCell ⟨g, q, none⟩ (.int .i64 (y : Int))) g (fun r => if r = q then y else f r) := by
  have h1 := Go.heap_setCell_same w g q _ _ (.int .i64 (y : Int)) h
  unfold IsArr
  rw [h1]
  match q, hq with
  | 0, _ => rfl
  | 1, _ => rfl
  | 2, _ => rfl
  | 3, _ => rfl

theorem vecOk_bd {l : List Int} (h : vecOk l = true) : l.length = 24 ∧ ∀ i, -100000 ≤ l.getD i 0 ∧ l.getD i 0 ≤ 100000 := by
  unfold vecOk at h
  rw [Bool.and_eq_true, List.all_eq_true, beq_iff_eq] at h
  refine ⟨h.2, fun i => ?_⟩
  by_cases hi : i < l.length
  · obtain ⟨h0, h1⟩ := inB_iff.1 (h.1 _ (List.getElem_mem hi))
    simp only [List.getD, List.getElem?_eq_getElem hi, Option.getD_some]
    exact ⟨h0, h1⟩
  · simp [List.getD, hi]

theorem implLatticeIn_no (a : Option Addr) (cap : Nat) (l : List Int) (w : World) (hl : l.length ≤ 9223372036854775807) (hr : Reads .i64 w a l) (h : vecOk l = false) :
    Calls Tryz.prog 11 #[.slice a l.length cap] w fun e w' => e = .returned (.bool false) ∧ w = w' := by
  go_enter Tryz.func11, Tryz.ntmps11
  go_wp2_with fail
  refine (implVectorValid_any _ _ _ _ hl hr).mono ?_
  rintro e w' ⟨rfl, rfl⟩
  go_wp2_with fail
  go_ret
  exact ⟨rfl, rfl⟩
set_option maxRecDepth 100000 in
theorem implLatticeIn_ok (a : Option Addr) (cap : Nat) (l : List Int) (w : World) (hr : Reads .i64 w a l) (hv : vecOk l = true) :
    Calls Tryz.prog 11 #[.slice a l.length cap] w fun e w' => e = .returned (.bool (latB l)) ∧ Below w.heap.size w w' := by
  obtain ⟨hl, hbd⟩ := vecOk_bd hv
  have C1 := Lib.hid (implVectorValid_any a cap l w (by omega) hr)
  rw [hv, hl] at C1
  rw [hl]
  obtain ⟨b, off, ha, hb, hc⟩ := hr 0 (by omega)
  subst ha
  rw [Nat.add_zero] at hc
  have HL := Lib.hid hl
  have HB := Lib.hid hbd
  have HS := Lib.hid (fun k => sumTo_bd hbd k)
  have D0 : Hid (latB l = ((List.range 24).all (parL l) && (List.range 4).all (fun r => codeB (rw4 l r 24)) && sumTo l 24 % 8 == 4 * (l.getD 0 0 % 2))) := Lib.hid rfl
  have D1 : Hid (∀ k, parL l k = (l.getD k 0 % 2 == l.getD 0 0 % 2)) := Lib.hid (fun _ => rfl)
  clear hv hl hbd
  obtain ⟨l0, hl0⟩ : ∃ l0, l.getD 0 0 = l0 := ⟨_, rfl⟩
  rw [hl0] at hc D0 D1
  clear hl0
  go_enter Tryz.func11, Tryz.ntmps11
  go_wp2_with fail
  refine (C1.out).mono ?_
  rintro e w' ⟨rfl, rfl⟩
  go_wp2_with fail
  refine (modulo_any _ _ _ (by omega) (by omega)).mono ?_
  rintro e w' ⟨rfl, rfl⟩
  generalize hodd : l0 % 2 = odd at *
  have hodd0 : 0 ≤ odd ∧ odd ≤ 1 := by omega
  clear hodd
  go_wp2_with fail
  go_loopw [5, 20] (fun s x wr => ∃ k : Nat, k ≤ 24 ∧ x = .int .i64 (k : Int) ∧ s = .int .i64 (sumTo l k) ∧ Hid ((List.range k).all (parL l) = true) ∧ IsArr wr w.heap.size (fun r => rw4 l r k) ∧ Below w.heap.size w wr)
    (fun _ x _ => (24 - (intOf x).toNat))
  case atStart =>
    refine ⟨0, by omega, rfl, rfl, Lib.hid rfl, ?_, (Below.refl _ _).alloc (Nat.le_refl _) _⟩
    have := heap_alloc_new w (.cells #[.int .i64 0, .int .i64 0, .int .i64 0, .int .i64 0] 40)
    exact this
  case round =>
    obtain ⟨k, hk, rfl, rfl, hall, hA, hbel⟩ := hrel
    by_cases hlt : k < 24
    · have hl := HL.out
      obtain ⟨b', off', ha', -, hck⟩ := hr k (by omega)
      simp only [Option.some.injEq, Addr.mk.injEq, and_true] at ha'
      obtain ⟨rfl, rfl⟩ := ha'
      have hcy : wr.cell? ⟨b, off + k, none⟩ = some (.int .i64 (l.getD k 0)) := by rw [hbel.cell (p := ⟨b, off + k, none⟩) hb]; exact hck
      have hyb := HB.out k
      have hsb := HS.out k
      have hki : (k : Int) < 24 := by omega
      have P1 := Lib.hid (latB_par (l := l) hlt)
      have P2 := Lib.hid (parL_step (l := l) (k := k) hall.out)
      have S1 : Hid (sumTo l (k + 1) = sumTo l k + l.getD k 0) := Lib.hid rfl
      have A1 := Lib.hid (rw4_succ l k)
      have A2 := Lib.hid (fun r => rw4_le l r k hk)
      have hpk := D1.out k
      clear hck hl hall hc
      generalize sumTo l k = sm at *
      generalize l.getD k 0 = y at *
      go_wp2_with fail
      refine (modulo_any _ _ _ (by omega) (by omega)).mono ?_
      rintro e w' ⟨rfl, rfl⟩
      by_cases hp : y % 2 = odd
      · have E := Lib.hid (P2.out (by rw [hpk, beq_iff_eq]; exact hp))
        have hne : (y % 2 != odd) = false := by rw [bne_eq_false_iff_eq]; exact hp
        obtain ⟨q, hq⟩ := Int.eq_ofNat_of_zero_le (show 0 ≤ y % 4 by omega)
        have hq4 : q < 4 := by omega
        have hqi : (q : Int) < 4 := by omega
        have Cm := Lib.hid (fun w => modulo_any y 4 w (by omega) (by omega))
        rw [hq] at Cm A1
        rw [Int.toNat_natCast] at A1
        have hfq := A2.out q
        obtain ⟨hcq, hfz⟩ := hA.at q hq4
        have hAd : IsArr wr.drew w.heap.size (fun r => rw4 l r k) := hA
        have hst := hAd.store q hq4 (rw4 l q k ||| 2 ^ k)
        have hcd : wr.drew.cell? ⟨w.heap.size, q, none⟩ = some (.int .i64 (rw4 l q k : Nat)) := hcq
        have hfd : wr.drew.frozen? ⟨w.heap.size, q, none⟩ = false := hfz
        have hor := or_step (m := rw4 l q k) (k := k) (by omega) (by omega)
        have hst2 : IsArr (wr.drew.setCell ⟨w.heap.size, q, none⟩ (.int .i64 ((rw4 l q k ||| 2 ^ k : Nat) : Int))) w.heap.size (fun r => rw4 l r (k + 1)) := by
          rw [A1.out]
          have e : (fun r => if r = q then rw4 l r k ||| 2 ^ k else rw4 l r k) = fun r => if r = q then rw4 l q k ||| 2 ^ k else rw4 l r k := by
            funext r
            by_cases h : r = q
            · subst h; rfl
            · rw [if_neg h, if_neg h]
          rw [e]
          exact hst
        have HST := Lib.hid hst2
        clear hp P1 P2 hpk hq A1 hst hst2 hA hAd
        generalize hm : rw4 l q k = m at *
        clear hm
        go_wp2_with fail
        go_still_tail 8, (by kernel_rfl)
        still_call ((Cm.out _).mono (by rintro e w' ⟨rfl, rfl⟩; exact ⟨rfl, rfl⟩))
        repeat still_step
        refine wpStill_nil ?_
        change wpList _ _ _ _ _ wr.drew
        go_wp2
        go_roundw
        case rel => exact ⟨k + 1, by omega, by go_num, by rw [S1.out], E, by first | exact HST.out | (have h := HST.out; rw [← hor] at h; exact h), hbel.drew.setCell (p := ⟨w.heap.size, q, none⟩) (Nat.le_refl _) _⟩
        case measure => simp [intOf]; omega
      · have E := Lib.hid (P1.out (by rw [hpk, beq_eq_false_iff_ne]; exact hp))
        have hne : (y % 2 != odd) = true := by rw [bne_iff_ne]; exact hp
        clear hp P1 P2 hpk
        go_wp2_with fail
        go_ret
        exact ⟨ret_bool E.out.symm, hbel⟩
    · have K : k = 24 := by omega
      have hs := HS.out k
      have A2 := Lib.hid (fun r => rw4_le l r k hk)
      have N1 : Hid (∀ r, r < 4 → codeB (rw4 l r k) = false → latB l = false) := by rw [K]; exact Lib.hid (fun r => latB_code (l := l) (r := r))
      have N2 : Hid (∀ q, (List.range q).all (fun r => codeB (rw4 l r k)) = true → codeB (rw4 l q k) = true → (List.range (q + 1)).all (fun r => codeB (rw4 l r k)) = true) := by rw [K]; exact Lib.hid (fun r => code4_step (l := l) (k := r))
      have D3 : Hid ((List.range 24).all (parL l) = true) := by rw [← K]; exact hall
      have D4 : Hid (latB l = ((List.range 24).all (parL l) && (List.range 4).all (fun r => codeB (rw4 l r k)) && sumTo l k % 8 == 4 * odd)) := by rw [K]; exact D0
      have hge : (24 : Int) ≤ (k : Int) := by omega
      clear K
      have ca0 := (hA.at 0 (by omega)).1
      have ca1 := (hA.at 1 (by omega)).1
      have ca2 := (hA.at 2 (by omega)).1
      have ca3 := (hA.at 3 (by omega)).1
      clear hA
      clear hc
      generalize sumTo l k = sm at *
      have i0 : ∀ w, (Instr.index 40 (.agg #[.int .i64 (rw4 l 0 k : Nat), .int .i64 (rw4 l 1 k : Nat), .int .i64 (rw4 l 2 k : Nat), .int .i64 (rw4 l 3 k : Nat)]) (.int .i64 0)).run Tryz.prog w = .ok (.int .i64 (rw4 l 0 k : Nat)) w := fun _ => by kernel_rfl
      have i1 : ∀ w, (Instr.index 40 (.agg #[.int .i64 (rw4 l 0 k : Nat), .int .i64 (rw4 l 1 k : Nat), .int .i64 (rw4 l 2 k : Nat), .int .i64 (rw4 l 3 k : Nat)]) (.int .i64 1)).run Tryz.prog w = .ok (.int .i64 (rw4 l 1 k : Nat)) w := fun _ => by kernel_rfl
      have i2 : ∀ w, (Instr.index 40 (.agg #[.int .i64 (rw4 l 0 k : Nat), .int .i64 (rw4 l 1 k : Nat), .int .i64 (rw4 l 2 k : Nat), .int .i64 (rw4 l 3 k : Nat)]) (.int .i64 2)).run Tryz.prog w = .ok (.int .i64 (rw4 l 2 k : Nat)) w := fun _ => by kernel_rfl
      have i3 : ∀ w, (Instr.index 40 (.agg #[.int .i64 (rw4 l 0 k : Nat), .int .i64 (rw4 l 1 k : Nat), .int .i64 (rw4 l 2 k : Nat), .int .i64 (rw4 l 3 k : Nat)]) (.int .i64 3)).run Tryz.prog w = .ok (.int .i64 (rw4 l 3 k : Nat)) w := fun _ => by kernel_rfl
      go_wp2_with fail
      go_loopw [42] (fun x wq => ∃ k' : Nat, k' ≤ 4 ∧ x = .int .i64 (k' : Int) ∧ Hid ((List.range k').all (fun r => codeB (rw4 l r k)) = true) ∧ Below w.heap.size w wq)
        (fun x _ => (4 - (intOf x).toNat))
      case atStart => exact ⟨0, by omega, rfl, Lib.hid rfl, hbel⟩
      case round =>
        obtain ⟨q, hq, rfl, hc4, hbq⟩ := hrel
        by_cases hlt : q < 4
        · have B1 := A2.out q
          have M1 := Lib.hid (N1.out q hlt)
          have M2 := Lib.hid (N2.out q hc4.out)
          have ik : ∀ w, (Instr.index 40 (.agg #[.int .i64 (rw4 l 0 k : Nat), .int .i64 (rw4 l 1 k : Nat), .int .i64 (rw4 l 2 k : Nat), .int .i64 (rw4 l 3 k : Nat)]) (.int .i64 (q : Int))).run Tryz.prog w = .ok (.int .i64 (rw4 l q k : Nat)) w := by
            intro w
            obtain rfl | rfl | rfl | rfl : q = 0 ∨ q = 1 ∨ q = 2 ∨ q = 3 := by omega
            · exact i0 w
            · exact i1 w
            · exact i2 w
            · exact i3 w
          have hk4 : (q : Int) < 4 := by omega
          clear i0 i1 i2 i3
          cases hcb : codeB (rw4 l q k)
          · have E := Lib.hid (M1.out hcb)
            go_wp2_with fail
            refine (implCodeIn_ok _ _ (by omega) (by omega)).mono ?_
            rintro e w1 ⟨rfl, hs1⟩
            rw [Int.toNat_natCast, hcb]
            go_wp2_with fail
            go_ret
            exact ⟨ret_bool E.out.symm, hbq.trans (hs1.mono hbq.size)⟩
          · have E := Lib.hid (M2.out hcb)
            go_wp2_with fail
            refine (implCodeIn_ok _ _ (by omega) (by omega)).mono ?_
            rintro e w1 ⟨rfl, hs1⟩
            rw [Int.toNat_natCast, hcb]
            go_wp2_with fail
            go_roundw
            case rel => exact ⟨q + 1, by omega, by go_num, E, hbq.trans (hs1.mono hbq.size)⟩
            case measure => simp [intOf]; omega
        · obtain rfl : q = 4 := by omega
          go_wp2_with fail
          refine (modulo_any _ _ _ (by omega) (by omega)).mono ?_
          rintro e w' ⟨rfl, rfl⟩
          go_wp2_with fail
          go_ret
          refine ⟨ret_bool ?_, hbq⟩
          rw [D4.out, D3.out, hc4.out]
          rfl

end Go.Proofs.YteedbejlbjfkgaaGreat
