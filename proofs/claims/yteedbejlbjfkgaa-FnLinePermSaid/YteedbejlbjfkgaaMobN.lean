/- Plain laws that tie the program's moves of the line to moves over the field of 23. -/
import Derived.Test.YteedbejlbjfkgaaMob
set_option linter.unusedVariables false
namespace Go.Proofs.Yteedbejlbjfkgaa.Res

def toF (n : Nat) : Fin 23 := Fin.ofNat 23 n
def toP (x : Nat) : Option (Fin 23) := if x = 23 then none else some (toF x)
def ofP : Option (Fin 23) → Nat
  | none => 23
  | some v => v.val

theorem ofP_toP {x : Nat} (h : x ≤ 23) : ofP (toP x) = x := by
  unfold toP
  split
  · rename_i e; rw [e]; rfl
  · simp only [ofP, toF, Fin.val_ofNat]; omega
theorem toP_ofP (x : Option (Fin 23)) : toP (ofP x) = x := by
  cases x with
  | none => rfl
  | some v =>
    have := v.isLt
    unfold toP ofP
    simp only
    rw [if_neg (by omega)]
    congr 1
    apply Fin.ext
    simp only [toF, Fin.val_ofNat]; omega
theorem ofP_le (x : Option (Fin 23)) : ofP x ≤ 23 := by
  cases x with
  | none => exact Nat.le_refl _
  | some v => exact Nat.le_of_lt v.isLt

theorem toF_val {n : Nat} : (toF n).val = n % 23 := rfl
theorem toF_zero {n : Nat} (h : n ≤ 22) : toF n = 0 ↔ n = 0 := by
  constructor
  · intro e
    have := congrArg Fin.val e
    rw [toF_val] at this
    simp at this
    omega
  · intro e; rw [e]; rfl
theorem lin_val {a b x : Nat} : (toF a * toF x + toF b).val = (a * x + b) % 23 := by
  rw [Fin.val_add, Fin.val_mul, toF_val, toF_val, toF_val, ← Nat.mul_mod, ← Nat.add_mod]
theorem quot_val {t u : Nat} (hu : u ≤ 22) : (toF t * finv (toF u)).val = t * invN u % 23 := by
  rw [Fin.val_mul, toF_val]
  unfold finv
  rw [toF_val, Nat.mod_eq_of_lt (show u < 23 by omega), Fin.val_ofNat, ← Nat.mul_mod]
theorem lin_eq {a b x : Nat} : toF a * toF x + toF b = toF ((a * x + b) % 23) := by
  apply Fin.ext
  rw [lin_val, toF_val, Nat.mod_mod]

theorem lm_mob {a b c d x : Nat} (hc : c ≤ 22) : lm a b c d x = ofP (mob (toF a) (toF b) (toF c) (toF d) (toP x)) := by
  by_cases hx : x = 23
  · subst hx
    unfold lm toP
    rw [lmTop_far, lmTop_far, if_pos rfl]
    by_cases h0 : c = 0
    · rw [if_pos h0, mob_far0 ((toF_zero hc).2 h0)]; rfl
    · rw [if_neg h0, mob_far1 (fun e => h0 ((toF_zero hc).1 e))]
      exact (quot_val hc).symm
  · unfold lm toP
    rw [lmTop_near hx, lmTop_near hx, if_neg hx]
    have hu : (c * x + d) % 23 ≤ 22 := by omega
    by_cases h0 : (c * x + d) % 23 = 0
    · rw [if_pos h0, mob_near0 (by rw [lin_eq]; exact (toF_zero hu).2 h0)]; rfl
    · rw [if_neg h0, mob_near1 (by rw [lin_eq]; exact fun e => h0 ((toF_zero hu).1 e)), lin_eq, lin_eq]
      exact (quot_val hu).symm

theorem sq_ne {n : Int} (h : sq n = true) : n ≠ 0 := by
  rintro rfl
  exact absurd h (by decide)

theorem det_ne {a b c d : Nat} (h : sq (((a : Int) * (d : Int) - (b : Int) * (c : Int)) % 23) = true) : toF a * toF d - toF b * toF c ≠ 0 := by
  intro e
  have hz : toF a * toF d = toF b * toF c := by grind
  have hv := congrArg Fin.val hz
  rw [Fin.val_mul, Fin.val_mul, toF_val, toF_val, toF_val, toF_val, ← Nat.mul_mod, ← Nat.mul_mod] at hv
  apply sq_ne h
  have e1 : ((a : Int) * (d : Int)) % 23 = ((b : Int) * (c : Int)) % 23 := by exact_mod_cast hv
  omega

theorem toF_neg {b : Nat} (h : b ≤ 22) : toF ((23 - b) % 23) = -toF b := by
  have : ∀ b : Nat, b < 23 → toF ((23 - b) % 23) = -toF b := by decide +kernel
  exact this b (by omega)

/-- A moved place is moved back. -/
theorem lm_back {a b c d x : Nat} (ha : a ≤ 22) (hb : b ≤ 22) (hc : c ≤ 22) (hd : d ≤ 22) (hx : x ≤ 23)
    (h : sq (((a : Int) * (d : Int) - (b : Int) * (c : Int)) % 23) = true) :
    lm d ((23 - b) % 23) ((23 - c) % 23) a (lm a b c d x) = x := by
  rw [lm_mob (c := (23 - c) % 23) (by omega), lm_mob hc, toP_ofP, toF_neg hb, toF_neg hc, mob_back _ _ _ _ (det_ne h), ofP_toP hx]

theorem mOk_back {a b c d : Nat} (hb : b ≤ 22) (hc : c ≤ 22) (h : mOk a b c d = true) : mOk d ((23 - (b : Int)) % 23) ((23 - (c : Int)) % 23) a = true := by
  unfold mOk at h ⊢
  simp only [Bool.and_eq_true, inB_iff] at h ⊢
  obtain ⟨⟨⟨⟨h1, h2⟩, h3⟩, h4⟩, h5⟩ := h
  refine ⟨⟨⟨⟨h4, by omega⟩, by omega⟩, h1⟩, ?_⟩
  have e : ((d : Int) * (a : Int) - (23 - (b : Int)) % 23 * ((23 - (c : Int)) % 23)) % 23 = ((a : Int) * (d : Int) - (b : Int) * (c : Int)) % 23 := by
    have hbc : (23 - (b : Int)) % 23 * ((23 - (c : Int)) % 23) % 23 = ((b : Int) * (c : Int)) % 23 := by
      rw [← Int.mul_emod]
      have : (23 - (b : Int)) * (23 - (c : Int)) = (b : Int) * (c : Int) + 23 * (23 - (b : Int) - (c : Int)) := by grind
      rw [this]
      omega
    have hda : (d : Int) * (a : Int) = (a : Int) * (d : Int) := Int.mul_comm _ _
    rw [hda]
    omega
  rw [e]
  exact h5

end Go.Proofs.Yteedbejlbjfkgaa.Res
