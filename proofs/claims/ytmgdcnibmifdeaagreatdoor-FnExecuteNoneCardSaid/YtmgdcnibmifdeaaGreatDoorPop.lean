/- A plain law: the library's count of ones, by adding fields side by side, is the number of places of a word. -/
import Derived.Test.YtmgdcnibmifdeaaGreatDoorWd
import Derived.Test.YtmgdcnibmifdeaaGreatDoorAllB
set_option linter.unusedVariables false
namespace Go.Proofs.YtmgdcnibmifdeaaGreatDoor.Res

theorem land_split (k a b c d : Nat) (ha : a < 2 ^ k) (hc : c < 2 ^ k) : (a + 2 ^ k * b) &&& (c + 2 ^ k * d) = (a &&& c) + 2 ^ k * (b &&& d) := by
  have h1 : ((a + 2 ^ k * b) &&& (c + 2 ^ k * d)) % 2 ^ k = a &&& c := by
    rw [Nat.and_mod_two_pow, Nat.add_mul_mod_self_left, Nat.add_mul_mod_self_left, Nat.mod_eq_of_lt ha, Nat.mod_eq_of_lt hc]
  have h2 : ((a + 2 ^ k * b) &&& (c + 2 ^ k * d)) / 2 ^ k = b &&& d := by
    rw [Nat.and_div_two_pow, Nat.add_mul_div_left _ _ (Nat.two_pow_pos k), Nat.add_mul_div_left _ _ (Nat.two_pow_pos k), Nat.div_eq_of_lt ha, Nat.div_eq_of_lt hc, Nat.zero_add, Nat.zero_add]
  generalize ((a + 2 ^ k * b) &&& (c + 2 ^ k * d)) = z at *
  rw [← h1, ← h2, Nat.mod_add_div]

/-- The first two stages. -/
def pop1 (x m : Nat) : Nat := (x / 2 &&& m) + (x &&& m)
def pop2 (x m : Nat) : Nat := (x / 4 &&& m) + (x &&& m)
/-- The others. -/
def pop3 (x : Nat) : Nat := (x / 16 + x) &&& 1085102592571150095
def pop4 (x : Nat) : Nat := x + x / 256
def pop5 (x : Nat) : Nat := x + x / 65536
def pop6 (x : Nat) : Nat := x + x / 4294967296
def pop (x : Nat) : Nat := pop6 (pop5 (pop4 (pop3 (pop2 (pop1 x 6148914691236517205) 3689348814741910323)))) &&& 127

theorem pop1_low (a : Nat) (ha : a < 4096) (c : Nat) (hc : c < 2) : (a / 2 + 2048 * c) &&& 1365 = a / 2 &&& 1365 := by
  have h := allB_all 12 (p := fun a => Nat.beq ((a / 2 + 2048) &&& 1365) (a / 2 &&& 1365)) (by decide +kernel) a ha
  rcases (show c = 0 ∨ c = 1 by omega) with rfl | rfl
  · rfl
  · exact Nat.eq_of_beq_eq_true h
theorem pop2_low (a : Nat) (ha : a < 4096) (c : Nat) (hc : c < 4) : (a / 4 + 1024 * c) &&& 819 = a / 4 &&& 819 := by
  have h1 := allB_all 12 (p := fun a => Nat.beq ((a / 4 + 1024) &&& 819) (a / 4 &&& 819)) (by decide +kernel) a ha
  have h2 := allB_all 12 (p := fun a => Nat.beq ((a / 4 + 2048) &&& 819) (a / 4 &&& 819)) (by decide +kernel) a ha
  have h3 := allB_all 12 (p := fun a => Nat.beq ((a / 4 + 3072) &&& 819) (a / 4 &&& 819)) (by decide +kernel) a ha
  rcases (show c = 0 ∨ c = 1 ∨ c = 2 ∨ c = 3 by omega) with rfl | rfl | rfl | rfl
  · rfl
  · exact Nat.eq_of_beq_eq_true h1
  · exact Nat.eq_of_beq_eq_true h2
  · exact Nat.eq_of_beq_eq_true h3
theorem pop1_bd (a : Nat) (ha : a < 4096) : pop1 a 1365 < 4096 := by
  have h := allB_all 12 (p := fun a => Nat.blt (pop1 a 1365) 4096) (by decide +kernel) a ha
  simpa using h

theorem pop1_split (a b M : Nat) (ha : a < 4096) : pop1 (a + 4096 * b) (1365 + 4096 * M) = pop1 a 1365 + 4096 * pop1 b M := by
  unfold pop1
  have e : (a + 4096 * b) / 2 = (a / 2 + 2048 * (b % 2)) + 2 ^ 12 * (b / 2) := by omega
  rw [e, show (1365 + 4096 * M) = 1365 + 2 ^ 12 * M from rfl, land_split 12 _ _ _ _ (by omega) (by decide), pop1_low a ha (b % 2) (by omega),
    show a + 4096 * b = a + 2 ^ 12 * b from rfl, land_split 12 _ _ _ _ ha (by decide)]
  omega
theorem pop2_split (a b M : Nat) (ha : a < 4096) : pop2 (a + 4096 * b) (819 + 4096 * M) = pop2 a 819 + 4096 * pop2 b M := by
  unfold pop2
  have e : (a + 4096 * b) / 4 = (a / 4 + 1024 * (b % 4)) + 2 ^ 12 * (b / 4) := by omega
  rw [e, show (819 + 4096 * M) = 819 + 2 ^ 12 * M from rfl, land_split 12 _ _ _ _ (by omega) (by decide), pop2_low a ha (b % 4) (by omega),
    show a + 4096 * b = a + 2 ^ 12 * b from rfl, land_split 12 _ _ _ _ ha (by decide)]
  omega

theorem land_low (k b c d : Nat) (hb : b < 2 ^ k) (hc : c < 2 ^ k) : b &&& (c + 2 ^ k * d) = b &&& c := by
  have := land_split k b 0 c d hb hc
  simpa using this

/-- The three fields of four bits added. -/
def nib (x : Nat) : Nat := x % 16 + x / 16 % 16 + x / 256
theorem pop12 (a : Nat) (ha : a < 4096) : nib (pop2 (pop1 a 1365) 819) = wtTo a 12 ∧ pop2 (pop1 a 1365) 819 % 16 < 5 ∧ pop2 (pop1 a 1365) 819 / 16 % 16 < 5 ∧ pop2 (pop1 a 1365) 819 / 256 < 5 := by
  have h := allB_all 12 (p := fun a => decide (nib (pop2 (pop1 a 1365) 819) = wtTo a 12 ∧ pop2 (pop1 a 1365) 819 % 16 < 5 ∧ pop2 (pop1 a 1365) 819 / 16 % 16 < 5 ∧ pop2 (pop1 a 1365) 819 / 256 < 5)) (by decide +kernel) a ha
  exact of_decide_eq_true h

def popEndB (p0 p1 p2 q0 q1 q2 : Nat) : Bool :=
  Nat.beq (pop6 (pop5 (pop4 (pop3 ((p0 + 16 * p1 + 256 * p2) + 4096 * (q0 + 16 * q1 + 256 * q2))))) &&& 127) (p0 + p1 + p2 + q0 + q1 + q2)
theorem popEnd (p0 p1 p2 q0 q1 q2 : Nat) (h0 : p0 < 5) (h1 : p1 < 5) (h2 : p2 < 5) (k0 : q0 < 5) (k1 : q1 < 5) (k2 : q2 < 5) :
    pop6 (pop5 (pop4 (pop3 ((p0 + 16 * p1 + 256 * p2) + 4096 * (q0 + 16 * q1 + 256 * q2))))) &&& 127 = p0 + p1 + p2 + q0 + q1 + q2 := by
  have h := allB_all 14 (p := fun i => popEndB (i % 5) (i / 5 % 5) (i / 25 % 5) (i / 125 % 5) (i / 625 % 5) (i / 3125)) (by decide +kernel)
    (p0 + 5 * p1 + 25 * p2 + 125 * q0 + 625 * q1 + 3125 * q2) (by omega)
  have e0 : (p0 + 5 * p1 + 25 * p2 + 125 * q0 + 625 * q1 + 3125 * q2) % 5 = p0 := by omega
  have e1 : (p0 + 5 * p1 + 25 * p2 + 125 * q0 + 625 * q1 + 3125 * q2) / 5 % 5 = p1 := by omega
  have e2 : (p0 + 5 * p1 + 25 * p2 + 125 * q0 + 625 * q1 + 3125 * q2) / 25 % 5 = p2 := by omega
  have e3 : (p0 + 5 * p1 + 25 * p2 + 125 * q0 + 625 * q1 + 3125 * q2) / 125 % 5 = q0 := by omega
  have e4 : (p0 + 5 * p1 + 25 * p2 + 125 * q0 + 625 * q1 + 3125 * q2) / 625 % 5 = q1 := by omega
  have e5 : (p0 + 5 * p1 + 25 * p2 + 125 * q0 + 625 * q1 + 3125 * q2) / 3125 = q2 := by omega
  simp only [e0, e1, e2, e3, e4, e5] at h
  exact Nat.eq_of_beq_eq_true h

theorem wtTo_split (a b : Nat) (ha : a < 4096) : ∀ k, wtTo (a + 4096 * b) (12 + k) = wtTo a 12 + wtTo b k := by
  have low : ∀ j, j ≤ 12 → wtTo (a + 4096 * b) j = wtTo a j := by
    intro j
    induction j with
    | zero => simp [wtTo]
    | succ j ih =>
      intro hj
      show wtTo (a + 4096 * b) j + (a + 4096 * b) / 2 ^ j % 2 = wtTo a j + a / 2 ^ j % 2
      rw [ih (by omega)]
      congr 1
      rw [show 4096 = 2 ^ j * 2 ^ (12 - j) by rw [← Nat.pow_add, show j + (12 - j) = 12 by omega], Nat.mul_assoc, Nat.add_mul_div_left _ _ (Nat.two_pow_pos j),
        show 12 - j = (12 - j - 1) + 1 by omega, Nat.pow_succ]
      generalize 2 ^ (12 - j - 1) = t
      rw [show t * 2 * b = 2 * (t * b) by rw [Nat.mul_comm t 2, Nat.mul_assoc]]
      omega
  intro k
  induction k with
  | zero => exact low 12 (Nat.le_refl _)
  | succ k ih =>
    show wtTo (a + 4096 * b) (12 + k) + (a + 4096 * b) / 2 ^ (12 + k) % 2 = wtTo a 12 + (wtTo b k + b / 2 ^ k % 2)
    rw [ih, Nat.pow_add, ← Nat.div_div_eq_div_mul, show (2 : Nat) ^ 12 = 4096 from rfl, show (a + 4096 * b) / 4096 = b by omega]
    omega

theorem pop_eq (x : Nat) (hx : x < 16777216) : pop x = wt x := by
  have hx' : x = x % 4096 + 4096 * (x / 4096) := by omega
  generalize ha : x % 4096 = a at hx'
  generalize hb : x / 4096 = b at hx'
  have ha' : a < 4096 := by omega
  have hb' : b < 4096 := by omega
  subst hx'
  have e1 : pop1 (a + 4096 * b) 6148914691236517205 = pop1 a 1365 + 4096 * pop1 b 1365 := by
    rw [show 6148914691236517205 = 1365 + 4096 * 1501199875790165 from rfl, pop1_split a b _ ha']
    congr 2
    unfold pop1
    rw [show 1501199875790165 = 1365 + 2 ^ 12 * 366503875925 from rfl, land_low 12 _ _ _ (by omega) (by decide), land_low 12 _ _ _ hb' (by decide)]
  have h1 := pop1_bd a ha'
  have h2 := pop1_bd b hb'
  have e2 : pop2 (pop1 a 1365 + 4096 * pop1 b 1365) 3689348814741910323 = pop2 (pop1 a 1365) 819 + 4096 * pop2 (pop1 b 1365) 819 := by
    rw [show 3689348814741910323 = 819 + 4096 * 900719925474099 from rfl, pop2_split _ _ _ h1]
    congr 2
    unfold pop2
    rw [show 900719925474099 = 819 + 2 ^ 12 * 219902325555 from rfl, land_low 12 _ _ _ (by omega) (by decide), land_low 12 _ _ _ h2 (by decide)]
  obtain ⟨n1, p0, p1, p2⟩ := pop12 a ha'
  obtain ⟨n2, q0, q1, q2⟩ := pop12 b hb'
  have hw : wt (a + 4096 * b) = wtTo a 12 + wtTo b 12 := wtTo_split a b ha' 12
  unfold pop
  rw [e1, e2, hw, ← n1, ← n2]
  generalize pop2 (pop1 a 1365) 819 = A at *
  generalize pop2 (pop1 b 1365) 819 = B at *
  have := popEnd (A % 16) (A / 16 % 16) (A / 256) (B % 16) (B / 16 % 16) (B / 256) p0 p1 p2 q0 q1 q2
  rw [show A % 16 + 16 * (A / 16 % 16) + 256 * (A / 256) = A by omega, show B % 16 + 16 * (B / 16 % 16) + 256 * (B / 256) = B by omega] at this
  rw [this]
  unfold nib
  omega

end Go.Proofs.YtmgdcnibmifdeaaGreatDoor.Res
