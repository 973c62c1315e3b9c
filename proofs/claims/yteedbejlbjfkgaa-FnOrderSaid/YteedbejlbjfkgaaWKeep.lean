/- Contracts of PermKeeps. -/
import Derived.Test.YteedbejlbjfkgaaWMw
import Derived.Test.YteedbejlbjfkgaaWCodeOf
import Derived.Test.YteedbejlbjfkgaaWCode
set_option linter.unusedVariables false
namespace Go.Proofs.Yteedbejlbjfkgaa
open Go.RowKit Res

/-- Does a permutation keep the code? -/
def keepB (p : List Int) : Bool := permOk p && (List.range 12).all (fun k => codeB (mvW p (code (2 ^ k))))
theorem base_code : ∀ k, k < 12 → cdBase.getD k 0 = code (2 ^ k) := by decide +kernel
theorem mvW_zero {p : List Int} (hl : p.length = 24) (h : okTo p 24) : mvW p 0 = 0 := by
  have := mvW_xor hl h 0 0
  rw [Nat.xor_self, Nat.xor_self] at this
  exact this
theorem keep_en {p : List Int} (h : keepB p = true) (m k : Nat) (hk : k ≤ 12) : codeB (mvW p (enTo m k)) = true := by
  unfold keepB at h
  rw [Bool.and_eq_true, List.all_eq_true] at h
  obtain ⟨hl, hok⟩ := permOk_ok h.1
  induction k with
  | zero =>
    rw [show enTo m 0 = 0 from rfl, mvW_zero hl hok]
    exact codeB_zero
  | succ k ih =>
    have ih := ih (by omega)
    cases hb : m.testBit k
    · rw [enTo_miss hb]; exact ih
    · rw [enTo_hit hb, mvW_xor hl hok, base_code k (by omega)]
      exact codeB_xor (mvW_lt hok _) (mvW_lt hok _) ih (h.2 k (by simp; omega))
theorem keep_all {p : List Int} (h : keepB p = true) {m : Nat} (hm : m < 4096) : codeB (mvW p (code m)) = true := by
  rw [Nat.eq_of_beq_eq_true (allB_all 12 en_code m hm)]
  exact keep_en h m 12 (Nat.le_refl _)
/-- What keeps the code moves its words to its words. -/
theorem keep_code {p : List Int} (h : keepB p = true) {n : Nat} (hn : n < 16777216) (hc : codeB n = true) : codeB (mvW p n) = true := by
  rw [← code_msg hn hc]
  exact keep_all h (msg_lt n)
theorem keep_of {p : List Int} (hp : permOk p = true) (h : ∀ m, m < 4096 → codeB (mvW p (code m)) = true) : keepB p = true := by
  unfold keepB
  rw [hp, Bool.true_and, List.all_eq_true]
  intro k hk
  have hk12 : k < 12 := by simpa using hk
  exact h _ (Nat.pow_lt_pow_right (n := 12) (by omega) hk12)

theorem implPermKeeps_any (a : Option Addr) (cap : Nat) (p : List Int) (w : World) (hl : p.length ≤ 9223372036854775807) (hr : Reads .i64 w a p) :
    Calls Try.prog 19 #[.slice a p.length cap] w fun e w' => e = .returned (.bool (keepB p)) ∧ Below w.heap.size w w' := by
  have C1 := Lib.hid (implPermValid_any a cap p w hl hr)
  cases hp : permOk p
  · have HQ : Hid (keepB p = false) := Lib.hid (by unfold keepB; rw [hp]; rfl)
    rw [hp] at C1
    clear hp
    go_enter Try.func19, Try.ntmps19
    go_wp2_with fail
    refine (C1.out).mono ?_
    rintro e w' ⟨rfl, rfl⟩
    go_wp2_with fail
    go_ret
    exact ⟨ret_bool HQ.out.symm, Below.refl _ _⟩
  · rw [hp] at C1
    have hok := (permOk_ok hp).2
    have CM := Lib.hid (fun n w' (hb : Below w.heap.size w w') (h0 : 0 ≤ n) (h1 : n ≤ 16777215) => moved_any a cap p n w' hp (hr.kept hb) h0 h1)
    have HML := Lib.hid (fun n => mvW_lt hok n)
    have HNO : Hid (∀ m, m < 4096 → codeB (mvW p (code m)) = false → keepB p = false) := Lib.hid (fun m hm h => by
      cases hk : keepB p
      · rfl
      · rw [keep_all hk hm] at h; cases h)
    have HYES := Lib.hid (fun h => keep_of hp h)
    clear hp hok hl
    generalize keepB p = B at *
    generalize mvW p = M at *
    go_enter Try.func19, Try.ntmps19
    go_wp2_with fail
    refine (C1.out).mono ?_
    rintro e w' ⟨rfl, rfl⟩
    go_wp2_with fail
    refine (words_any _).mono ?_
    rintro e w1 ⟨v1, rfl, hO1, hs1⟩
    obtain ⟨a1, c1, rfl, hR1, hl1, hc1⟩ := hO1.shape
    have HN := Lib.hid (cdsTo_length 4096)
    have HG := Lib.hid (fun k hk => cdsTo_get 4096 k hk)
    have hb1 := (Below.refl w.heap.size w).trans hs1
    have hNi : ((cdsTo 4096).length : Int) ≤ 4096 := by rw [HN.out]; omega
    clear hO1
    generalize cdsTo 4096 = W at *
    go_wp2_with fail
    go_loopw [10] (fun x wr => ∃ k : Nat, k ≤ W.length ∧ x = .int .i64 (k : Int) ∧ (∀ m, m < k → codeB (M (code m)) = true) ∧ Below w1.heap.size w1 wr)
      (fun x _ => (W.length - (intOf x).toNat))
    case atStart => exact ⟨0, by omega, rfl, fun m hm => by omega, Below.refl _ _⟩
    case round =>
      obtain ⟨k, hk, rfl, hall, hbel⟩ := hrel
      have HALL := Lib.hid hall
      clear hall
      by_cases hlt : k < W.length
      · have hki : (k : Int) < (W.length : Int) := by omega
        obtain ⟨b, off, ha, hb, hc⟩ := (hR1.kept hbel) k hlt
        subst ha
        rw [HG.out k (by rw [← HN.out]; exact hlt)] at hc
        have hcl := code_lt (m := k) (by omega)
        have CMk := Lib.hid (fun w' hb => CM.out ((code k : Nat) : Int) w' hb (by omega) (by omega))
        rw [Int.toNat_natCast] at CMk
        have hml := HML.out (code k)
        have CI := Lib.hid (fun w' => implCodeIn_ok ((M (code k) : Nat) : Int) w' (by omega) (by omega))
        rw [Int.toNat_natCast] at CI
        have HK4 : Hid (k < 4096) := Lib.hid (by omega)
        have HST : Hid (codeB (M (code k)) = true → ∀ m, m < k + 1 → codeB (M (code m)) = true) := Lib.hid (fun h m hm => by
          by_cases e : m = k
          · rw [e]; exact h
          · exact HALL.out m (by omega))
        have HNk := Lib.hid (HNO.out k HK4.out)
        have hbw := hb1.trans (hbel.mono hb1.size)
        clear HALL
        generalize M (code k) = z at *
        generalize code k = y at *
        go_wp2_with fail
        refine (CMk.out _ hbw).mono ?_
        rintro e w2 ⟨rfl, hs2⟩
        have hb2 := hbel.trans (hs2.mono hbel.size)
        go_wp2_with fail
        refine (CI.out _).mono ?_
        rintro e w3 ⟨rfl, hs3⟩
        have hb3 := hb2.trans (hs3.mono hb2.size)
        cases hcz : codeB z
        · have HF := Lib.hid (HNk.out hcz)
          go_wp2_with fail
          go_ret
          exact ⟨ret_bool HF.out.symm, hs1.trans (hb3.mono hs1.size)⟩
        · have HT := Lib.hid (HST.out hcz)
          clear hcz
          go_wp2_with fail
          go_roundw
          case rel => exact ⟨k + 1, by omega, by go_num, HT.out, hb3⟩
          case measure => simp [intOf]; omega
      · have HB : Hid (B = true) := Lib.hid (HYES.out (fun m hm => HALL.out m (by have := HN.out; omega)))
        obtain rfl : k = W.length := by omega
        clear HALL hk hlt
        go_wp2
        go_ret
        exact ⟨ret_bool HB.out.symm, hs1.trans (hbel.mono hs1.size)⟩

theorem specPermKeeps_any (a : Option Addr) (cap : Nat) (p : List Int) (w : World) (hl : p.length ≤ 9223372036854775807) (hr : Reads .i64 w a p) :
    Calls Try.prog 25 #[.slice a p.length cap] w fun e w' => e = .returned (.bool (keepB p)) ∧ Below w.heap.size w w' := by
  have C1 := Lib.hid (specPermValid_any a cap p w hl hr)
  cases hp : permOk p
  · have HQ : Hid (keepB p = false) := Lib.hid (by unfold keepB; rw [hp]; rfl)
    rw [hp] at C1
    clear hp
    go_enter Try.func25, Try.ntmps25
    go_wp2_with fail
    refine (C1.out).mono ?_
    rintro e w' ⟨rfl, rfl⟩
    go_wp2_with fail
    go_ret
    exact ⟨ret_bool HQ.out.symm, Below.refl _ _⟩
  · rw [hp] at C1
    have hok := (permOk_ok hp).2
    have CM := Lib.hid (fun n w' (hb : Below w.heap.size w w') (h0 : 0 ≤ n) (h1 : n ≤ 16777215) => l7Word_any a cap p n w' hp (hr.kept hb) h0 h1)
    have HML := Lib.hid (fun n => mvW_lt hok n)
    have HNO : Hid (∀ m, m < 4096 → codeB (mvW p (code m)) = false → keepB p = false) := Lib.hid (fun m hm h => by
      cases hk : keepB p
      · rfl
      · rw [keep_all hk hm] at h; cases h)
    have HYES : Hid ((∀ k, k < 12 → codeB (mvW p (code (2 ^ k))) = true) → keepB p = true) := Lib.hid (fun h => by
      unfold keepB
      rw [hp, Bool.true_and, List.all_eq_true]
      exact fun k hk => h k (by simpa using hk))
    clear hp hok hl
    generalize keepB p = B at *
    generalize mvW p = M at *
    go_enter Try.func25, Try.ntmps25
    go_wp2_with fail
    refine (C1.out).mono ?_
    rintro e w' ⟨rfl, rfl⟩
    go_wp2_with fail
    go_loopw [3] (fun x wr => ∃ k : Nat, k ≤ 12 ∧ x = .int .i64 (k : Int) ∧ (∀ m, m < k → codeB (M (code (2 ^ m))) = true) ∧ Below w.heap.size w wr)
      (fun x _ => (12 - (intOf x).toNat))
    case atStart => exact ⟨0, by omega, rfl, fun m hm => by omega, Below.refl _ _⟩
    case round =>
      obtain ⟨k, hk, rfl, hall, hbel⟩ := hrel
      have HALL := Lib.hid hall
      clear hall
      by_cases hlt : k < 12
      · have hki : (k : Int) < 12 := by omega
        have hp2 : (2 : Nat) ^ k < 4096 := Nat.pow_lt_pow_right (n := 12) (by omega) hlt
        have HPW := Lib.hid (wrap64_pow k (by omega))
        have CO := Lib.hid (fun w => l3Of_any ((2 ^ k : Nat) : Int) w (Int.natCast_nonneg _) (Int.ofNat_le.2 (show 2 ^ k ≤ 4095 by omega)))
        rw [Int.toNat_natCast] at CO
        have hcl := code_lt (m := 2 ^ k) hp2
        have CMk := Lib.hid (fun w' hb => CM.out ((code (2 ^ k) : Nat) : Int) w' hb (by omega) (by omega))
        rw [Int.toNat_natCast] at CMk
        have hml := HML.out (code (2 ^ k))
        have CI := Lib.hid (fun w' => l3In_ok ((M (code (2 ^ k)) : Nat) : Int) w' (by omega) (by omega))
        rw [Int.toNat_natCast] at CI
        have HST : Hid (codeB (M (code (2 ^ k))) = true → ∀ m, m < k + 1 → codeB (M (code (2 ^ m))) = true) := Lib.hid (fun h m hm => by
          by_cases e : m = k
          · rw [e]; exact h
          · exact HALL.out m (by omega))
        have HNk := Lib.hid (HNO.out (2 ^ k) hp2)
        clear HALL hp2
        generalize M (code (2 ^ k)) = z at *
        generalize code (2 ^ k) = y at *
        go_wp2_with fail
        rw [HPW.out]
        refine (CO.out _).mono ?_
        rintro e w1 ⟨rfl, hs1⟩
        have hb1 := hbel.trans (hs1.mono hbel.size)
        go_wp2_with fail
        refine (CMk.out _ hb1).mono ?_
        rintro e w2 ⟨rfl, hs2⟩
        have hb2 := hb1.trans (hs2.mono hb1.size)
        go_wp2_with fail
        refine (CI.out _).mono ?_
        rintro e w3 ⟨rfl, hs3⟩
        have hb3 := hb2.trans (hs3.mono hb2.size)
        cases hcz : codeB z
        · have HF := Lib.hid (HNk.out hcz)
          go_wp2_with fail
          go_ret
          exact ⟨ret_bool HF.out.symm, hb3⟩
        · have HT := Lib.hid (HST.out hcz)
          clear hcz
          go_wp2_with fail
          go_roundw
          case rel => exact ⟨k + 1, by omega, by go_num, HT.out, hb3⟩
          case measure => simp [intOf]; omega
      · have HB : Hid (B = true) := Lib.hid (HYES.out (fun m hm => HALL.out m (by omega)))
        obtain rfl : k = 12 := by omega
        clear HALL hk hlt
        go_wp2
        go_ret
        exact ⟨ret_bool HB.out.symm, hbel⟩

end Go.Proofs.Yteedbejlbjfkgaa
