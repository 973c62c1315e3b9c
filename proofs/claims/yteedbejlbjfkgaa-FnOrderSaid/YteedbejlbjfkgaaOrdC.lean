/- Plain laws: checks of the orders of 960 permutations, packed. -/
import Derived.Test.YteedbejlbjfkgaaM24
import Derived.Test.YteedbejlbjfkgaaOd
import Derived.Test.YteedbejlbjfkgaaItP
set_option linter.unusedVariables false
namespace Go.Proofs.Yteedbejlbjfkgaa
open Res

/-- One packed permutation behind another. -/
def cpTo (P Q : Nat) : Nat → Nat
  | 0 => 0
  | k + 1 => cpTo P Q k + pk Q (pk P k) * 32 ^ k
def cp (P Q : Nat) : Nat := Nat.add (Nat.add (Nat.add (Nat.add (Nat.add (Nat.add (Nat.add (Nat.add (Nat.add (Nat.add (Nat.add (Nat.add (Nat.add (Nat.add (Nat.add (Nat.add (Nat.add (Nat.add (Nat.add (Nat.add (Nat.add (Nat.add (Nat.add (Nat.add 0 (Nat.mul (Nat.mod (Nat.div Q (Nat.pow 32 (Nat.mod (Nat.div P 1) 32))) 32) 1)) (Nat.mul (Nat.mod (Nat.div Q (Nat.pow 32 (Nat.mod (Nat.div P 32) 32))) 32) 32)) (Nat.mul (Nat.mod (Nat.div Q (Nat.pow 32 (Nat.mod (Nat.div P 1024) 32))) 32) 1024)) (Nat.mul (Nat.mod (Nat.div Q (Nat.pow 32 (Nat.mod (Nat.div P 32768) 32))) 32) 32768)) (Nat.mul (Nat.mod (Nat.div Q (Nat.pow 32 (Nat.mod (Nat.div P 1048576) 32))) 32) 1048576)) (Nat.mul (Nat.mod (Nat.div Q (Nat.pow 32 (Nat.mod (Nat.div P 33554432) 32))) 32) 33554432)) (Nat.mul (Nat.mod (Nat.div Q (Nat.pow 32 (Nat.mod (Nat.div P 1073741824) 32))) 32) 1073741824)) (Nat.mul (Nat.mod (Nat.div Q (Nat.pow 32 (Nat.mod (Nat.div P 34359738368) 32))) 32) 34359738368)) (Nat.mul (Nat.mod (Nat.div Q (Nat.pow 32 (Nat.mod (Nat.div P 1099511627776) 32))) 32) 1099511627776)) (Nat.mul (Nat.mod (Nat.div Q (Nat.pow 32 (Nat.mod (Nat.div P 35184372088832) 32))) 32) 35184372088832)) (Nat.mul (Nat.mod (Nat.div Q (Nat.pow 32 (Nat.mod (Nat.div P 1125899906842624) 32))) 32) 1125899906842624)) (Nat.mul (Nat.mod (Nat.div Q (Nat.pow 32 (Nat.mod (Nat.div P 36028797018963968) 32))) 32) 36028797018963968)) (Nat.mul (Nat.mod (Nat.div Q (Nat.pow 32 (Nat.mod (Nat.div P 1152921504606846976) 32))) 32) 1152921504606846976)) (Nat.mul (Nat.mod (Nat.div Q (Nat.pow 32 (Nat.mod (Nat.div P 36893488147419103232) 32))) 32) 36893488147419103232)) (Nat.mul (Nat.mod (Nat.div Q (Nat.pow 32 (Nat.mod (Nat.div P 1180591620717411303424) 32))) 32) 1180591620717411303424)) (Nat.mul (Nat.mod (Nat.div Q (Nat.pow 32 (Nat.mod (Nat.div P 37778931862957161709568) 32))) 32) 37778931862957161709568)) (Nat.mul (Nat.mod (Nat.div Q (Nat.pow 32 (Nat.mod (Nat.div P 1208925819614629174706176) 32))) 32) 1208925819614629174706176)) (Nat.mul (Nat.mod (Nat.div Q (Nat.pow 32 (Nat.mod (Nat.div P 38685626227668133590597632) 32))) 32) 38685626227668133590597632)) (Nat.mul (Nat.mod (Nat.div Q (Nat.pow 32 (Nat.mod (Nat.div P 1237940039285380274899124224) 32))) 32) 1237940039285380274899124224)) (Nat.mul (Nat.mod (Nat.div Q (Nat.pow 32 (Nat.mod (Nat.div P 39614081257132168796771975168) 32))) 32) 39614081257132168796771975168)) (Nat.mul (Nat.mod (Nat.div Q (Nat.pow 32 (Nat.mod (Nat.div P 1267650600228229401496703205376) 32))) 32) 1267650600228229401496703205376)) (Nat.mul (Nat.mod (Nat.div Q (Nat.pow 32 (Nat.mod (Nat.div P 40564819207303340847894502572032) 32))) 32) 40564819207303340847894502572032)) (Nat.mul (Nat.mod (Nat.div Q (Nat.pow 32 (Nat.mod (Nat.div P 1298074214633706907132624082305024) 32))) 32) 1298074214633706907132624082305024)) (Nat.mul (Nat.mod (Nat.div Q (Nat.pow 32 (Nat.mod (Nat.div P 41538374868278621028243970633760768) 32))) 32) 41538374868278621028243970633760768)
theorem pk_lt (P i : Nat) : pk P i < 32 := Nat.mod_lt _ (by decide)
theorem pk_eq (P i : Nat) : pk P i = P / 32 ^ i % 32 := rfl
theorem cpTo_lt (P Q k : Nat) : cpTo P Q k < 32 ^ k := by
  induction k with
  | zero => simp [cpTo]
  | succ k ih =>
    have h := pk_lt Q (pk P k)
    show cpTo P Q k + pk Q (pk P k) * 32 ^ k < _
    rw [Nat.pow_succ]
    have h2 := Nat.mul_le_mul_right (32 ^ k) (Nat.le_of_lt_succ (show pk Q (pk P k) < 31 + 1 from h))
    omega
theorem cpTo_get (P Q k i : Nat) (hi : i < k) : pk (cpTo P Q k) i = pk Q (pk P i) := by
  induction k with
  | zero => omega
  | succ k ih =>
    have hY := cpTo_lt P Q k
    show (cpTo P Q k + pk Q (pk P k) * 32 ^ k) / 32 ^ i % 32 = _
    by_cases e : i = k
    · subst e
      rw [Nat.add_mul_div_right _ _ (Nat.pow_pos (by decide)), Nat.div_eq_of_lt hY, Nat.zero_add]
      exact Nat.mod_eq_of_lt (pk_lt _ _)
    · have h1 := ih (by omega)
      rw [pk_eq (cpTo P Q k)] at h1
      obtain ⟨d, rfl⟩ : ∃ d, k = i + 1 + d := ⟨k - i - 1, by omega⟩
      have e2 : pk Q (pk P (i + 1 + d)) * 32 ^ (i + 1 + d) = (32 * (pk Q (pk P (i + 1 + d)) * 32 ^ d)) * 32 ^ i := by
        rw [Nat.pow_add, Nat.pow_add, Nat.pow_one]
        ac_rfl
      rw [e2, Nat.add_mul_div_right _ _ (Nat.pow_pos (by decide)), Nat.add_mul_mod_self_left]
      exact h1
theorem cp_eq (P Q : Nat) : cp P Q = cpTo P Q 24 := rfl
theorem cp_get (P Q : Nat) {i : Nat} (hi : i < 24) : pk (cp P Q) i = pk Q (pk P i) := by rw [cp_eq]; exact cpTo_get P Q 24 i hi
def frc (n : Nat) (f : Nat → Bool) : Bool :=
  match n with
  | 0 => f 0
  | Nat.succ m => f (Nat.succ m)
theorem frc_eq (n : Nat) (f : Nat → Bool) : frc n f = f n := by cases n <;> rfl
def idQ : Nat := 984818244535754528103549039458486304
theorem idQ_get : ∀ i, i < 24 → pk idQ i = i := by decide +kernel
/-- Repeated. -/
def itN (f : Nat → Nat) (i : Nat) : Nat → Nat
  | 0 => i
  | n + 1 => f (itN f i n)
theorem itN_add (f : Nat → Nat) (i m n : Nat) : itN f i (m + n) = itN f (itN f i m) n := by
  induction n with
  | zero => rfl
  | succ n ih => show f (itN f i (m + n)) = f _; rw [ih]
/-- The packed number P is Q, n times. -/
def repQ (Q P n : Nat) : Prop := ∀ i, i < 24 → pk P i = itN (pk Q) i n
theorem itN_lt {Q : Nat} (h : ∀ i, i < 24 → pk Q i < 24) {i : Nat} (hi : i < 24) (n : Nat) : itN (pk Q) i n < 24 := by
  induction n with
  | zero => exact hi
  | succ n ih => exact h _ ih
theorem rep_one (Q : Nat) : repQ Q Q 1 := fun _ _ => rfl
theorem rep_add {Q A B m n : Nat} (h : ∀ i, i < 24 → pk Q i < 24) (ha : repQ Q A m) (hb : repQ Q B n) : repQ Q (cp A B) (m + n) := fun i hi => by
  rw [cp_get A B hi, ha i hi, hb _ (itN_lt h hi m), itN_add]
theorem rep_id {Q P n : Nat} (h : repQ Q P n) (e : Nat.beq P idQ = true) : ∀ i, i < 24 → itN (pk Q) i n = i := fun i hi => by
  rw [← h i hi, Nat.eq_of_beq_eq_true e, idQ_get i hi]
def ordOk (n : Nat) : Bool := Nat.ble 1 n && (Nat.ble n 8 || (Nat.ble 10 n && Nat.ble n 12) || Nat.beq n 14 || Nat.beq n 15 || Nat.beq n 21 || Nat.beq n 23)
def ordL : List Nat := [8, 10, 11, 12, 14, 15, 21, 23]
theorem ordL_dvd : ordL.all (fun m => (List.range 24).all (fun d => ordOk d || !Nat.beq (m % d) 0 || Nat.beq d 0)) = true := by decide +kernel
theorem ord_of {d m : Nat} (hm : m ∈ ordL) (h : d ∣ m) : ordOk d = true := by
  have h1 := List.all_eq_true.1 ordL_dvd m hm
  have hb : 1 ≤ m ∧ m ≤ 23 := by
    have : ∀ m, m ∈ ordL → 1 ≤ m ∧ m ≤ 23 := by decide
    exact this m hm
  have hd : d ≤ m := Nat.le_of_dvd (by omega) h
  have h2 := List.all_eq_true.1 h1 d (List.mem_range.2 (by omega))
  rw [Bool.or_eq_true, Bool.or_eq_true] at h2
  rcases h2 with (h2 | h2) | h2
  · exact h2
  · rw [Nat.mod_eq_zero_of_dvd h] at h2; cases h2
  · have := Nat.eq_of_beq_eq_true h2
    subst this
    have := Nat.eq_zero_of_zero_dvd h
    omega
def okQ (Q : Nat) : Bool :=
  allTo (fun i => Nat.blt (pk Q i) 24) 24 &&
  frc (cp Q Q) fun Q2 => frc (cp Q2 Q2) fun Q4 => frc (cp Q4 Q4) fun Q8 => Nat.beq Q8 idQ ||
  frc (cp Q8 Q4) fun B => Nat.beq B idQ || frc (cp B Q2) fun D => Nat.beq D idQ || (Nat.beq (cp D Q) idQ ||
  frc (cp Q8 Q2) fun A => Nat.beq A idQ || (Nat.beq (cp A Q) idQ ||
  frc (cp Q8 Q8) fun S => frc (cp S Q4) fun E => frc (cp E Q) fun F => Nat.beq F idQ || Nat.beq (cp F Q2) idQ))
theorem okQ_back {Q : Nat} (h : okQ Q = true) : ∃ n, n ∈ ordL ∧ ∀ i, i < 24 → itN (pk Q) i n = i := by
  unfold okQ at h
  simp only [frc_eq, Bool.and_eq_true, Bool.or_eq_true] at h
  obtain ⟨h0, h⟩ := h
  have hlt : ∀ i, i < 24 → pk Q i < 24 := fun i hi => by simpa using allTo_get h0 i hi
  have r1 := rep_one Q
  have r2 := rep_add hlt r1 r1
  have r4 := rep_add hlt r2 r2
  have r8 := rep_add hlt r4 r4
  have r12 := rep_add hlt r8 r4
  have r14 := rep_add hlt r12 r2
  have r15 := rep_add hlt r14 r1
  have r10 := rep_add hlt r8 r2
  have r11 := rep_add hlt r10 r1
  have r16 := rep_add hlt r8 r8
  have r20 := rep_add hlt r16 r4
  have r21 := rep_add hlt r20 r1
  have r23 := rep_add hlt r21 r2
  rcases h with h | h | h | h | h | h | h | h
  · exact ⟨8, by decide, rep_id r8 h⟩
  · exact ⟨12, by decide, rep_id r12 h⟩
  · exact ⟨14, by decide, rep_id r14 h⟩
  · exact ⟨15, by decide, rep_id r15 h⟩
  · exact ⟨10, by decide, rep_id r10 h⟩
  · exact ⟨11, by decide, rep_id r11 h⟩
  · exact ⟨21, by decide, rep_id r21 h⟩
  · exact ⟨23, by decide, rep_id r23 h⟩
def chkA (a : Nat) : Bool := frc (cp pS (pT4.getD (a + 4) 0)) fun X => allTo (fun b => frc (cp X (pT5.getD (b + 5) 0)) fun Y => allTo (fun c => frc (cp Y (pT6.getD (c + 8) 0)) okQ) 16) 3
theorem chk0 : chkA 0 = true := by decide +kernel
theorem chk1 : chkA 1 = true := by decide +kernel
theorem chk2 : chkA 2 = true := by decide +kernel
theorem chk3 : chkA 3 = true := by decide +kernel
theorem chk4 : chkA 4 = true := by decide +kernel
theorem chk5 : chkA 5 = true := by decide +kernel
theorem chk6 : chkA 6 = true := by decide +kernel
theorem chk7 : chkA 7 = true := by decide +kernel
theorem chk8 : chkA 8 = true := by decide +kernel
theorem chk9 : chkA 9 = true := by decide +kernel
theorem chk10 : chkA 10 = true := by decide +kernel
theorem chk11 : chkA 11 = true := by decide +kernel
theorem chk12 : chkA 12 = true := by decide +kernel
theorem chk13 : chkA 13 = true := by decide +kernel
theorem chk14 : chkA 14 = true := by decide +kernel
theorem chk15 : chkA 15 = true := by decide +kernel
theorem chk16 : chkA 16 = true := by decide +kernel
theorem chk17 : chkA 17 = true := by decide +kernel
theorem chk18 : chkA 18 = true := by decide +kernel
theorem chk19 : chkA 19 = true := by decide +kernel
theorem chk_all (a : Nat) (ha : a < 20) : chkA a = true := by
  rcases (show a = 0 ∨ a = 1 ∨ a = 2 ∨ a = 3 ∨ a = 4 ∨ a = 5 ∨ a = 6 ∨ a = 7 ∨ a = 8 ∨ a = 9 ∨ a = 10 ∨ a = 11 ∨ a = 12 ∨ a = 13 ∨ a = 14 ∨ a = 15 ∨ a = 16 ∨ a = 17 ∨ a = 18 ∨ a = 19 by omega) with rfl | rfl | rfl | rfl | rfl | rfl | rfl | rfl | rfl | rfl | rfl | rfl | rfl | rfl | rfl | rfl | rfl | rfl | rfl | rfl
  · exact chk0
  · exact chk1
  · exact chk2
  · exact chk3
  · exact chk4
  · exact chk5
  · exact chk6
  · exact chk7
  · exact chk8
  · exact chk9
  · exact chk10
  · exact chk11
  · exact chk12
  · exact chk13
  · exact chk14
  · exact chk15
  · exact chk16
  · exact chk17
  · exact chk18
  · exact chk19
theorem chk_get {x y z : Nat} (hx : 4 ≤ x) (hx' : x < 24) (hy : 5 ≤ y) (hy' : y < 8) (hz : 8 ≤ z) (hz' : z < 24) : okQ (cp (cp (cp pS (pT4.getD x 0)) (pT5.getD y 0)) (pT6.getD z 0)) = true := by
  have h := chk_all (x - 4) (by omega)
  unfold chkA at h
  rw [frc_eq, show x - 4 + 4 = x by omega] at h
  have h2 : frc (cp (cp pS (pT4.getD x 0)) (pT5.getD (y - 5 + 5) 0)) (fun Y => allTo (fun c => frc (cp Y (pT6.getD (c + 8) 0)) okQ) 16) = true := allTo_get h (y - 5) (by omega)
  rw [frc_eq, show y - 5 + 5 = y by omega] at h2
  have h3 : frc (cp (cp (cp pS (pT4.getD x 0)) (pT5.getD y 0)) (pT6.getD (z - 8 + 8) 0)) okQ = true := allTo_get h2 (z - 8) (by omega)
  rw [frc_eq, show z - 8 + 8 = z by omega] at h3
  exact h3

end Go.Proofs.Yteedbejlbjfkgaa
