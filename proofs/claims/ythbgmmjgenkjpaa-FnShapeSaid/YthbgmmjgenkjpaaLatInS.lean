/- Plain law: the lattice by the words of the rests. -/
import Derived.Test.YthbgmmjgenkjpaaLatIn
import Derived.Test.YthbgmmjgenkjpaaPm
set_option linter.unusedVariables false
namespace Go.Proofs.Ythbgmmjgenkjpaa.Res

theorem rw4_zero (l : List Int) (r k : Nat) : rw4 l r k = 0 ↔ ∀ i, i < k → (l.getD i 0 % 4).toNat ≠ r := by
  induction k with
  | zero => simp [rw4]
  | succ k ih =>
    have hp : (2 : Nat) ^ k ≠ 0 := Nat.pos_iff_ne_zero.1 (Nat.two_pow_pos k)
    simp only [rw4]
    split
    · next h =>
      constructor
      · intro e
        have : (rw4 l r k ||| 2 ^ k).testBit k = true := by rw [Nat.testBit_or, Nat.testBit_two_pow]; simp
        rw [e] at this
        simp at this
      · intro e
        exact absurd h.symm (e k (by omega))
    · next h =>
      rw [ih]
      constructor
      · intro e i hi
        by_cases hk : i = k
        · subst hk; exact fun h' => h h'.symm
        · exact e i (by omega)
      · intro e i hi
        exact e i (by omega)
theorem rw4_bit (l : List Int) (r k : Nat) : (rw4 l r k).testBit k = false := Nat.testBit_lt_two_pow (rw4_lt l r k)
theorem rw4_add (l : List Int) (k : Nat) : (fun r => rw4 l r (k + 1)) = fun r => if r = (l.getD k 0 % 4).toNat then rw4 l r k + 2 ^ k else rw4 l r k := by
  funext r
  show (if _ then _ else _) = _
  rw [add_bit (rw4_bit l r k)]

theorem code_zero : codeB 0 = true := by decide +kernel

theorem par_words {l : List Int} {o : Nat} (ho : l.getD 0 0 % 2 = (o : Int)) : (List.range 24).all (parL l) = true ↔ rw4 l (1 - o) 24 = 0 ∧ rw4 l (3 - o) 24 = 0 := by
  have h2 : o < 2 := by omega
  rw [List.all_eq_true, rw4_zero, rw4_zero]
  constructor
  · intro h
    refine ⟨fun i hi => ?_, fun i hi => ?_⟩
    all_goals
      have := h i (by simpa using hi)
      unfold parL at this
      rw [beq_iff_eq, ho] at this
      omega
  · rintro ⟨h1, h3⟩ i hi
    have hi' : i < 24 := by simpa using hi
    have a := h1 i hi'
    have b := h3 i hi'
    unfold parL
    rw [beq_iff_eq, ho]
    omega

theorem latB_words {l : List Int} {o : Nat} (ho : l.getD 0 0 % 2 = (o : Int)) (h1 : rw4 l (1 - o) 24 = 0) (h3 : rw4 l (3 - o) 24 = 0) :
    latB l = (codeB (rw4 l o 24) && codeB (rw4 l (2 + o) 24) && sumTo l 24 % 8 == 4 * (o : Int)) := by
  have hp := (par_words ho).2 ⟨h1, h3⟩
  unfold latB
  rw [hp, Bool.true_and, ho]
  congr 1
  have h2 : o < 2 := by omega
  match o, h2 with
  | 0, _ => simp only [Nat.sub_zero] at h1 h3; simp [List.range_succ, h1, h3, code_zero]
  | 1, _ => simp only [Nat.sub_self] at h1; simp [List.range_succ, h1, h3, code_zero]
theorem latB_not {l : List Int} {o : Nat} (ho : l.getD 0 0 % 2 = (o : Int)) (h : ¬ (rw4 l (1 - o) 24 = 0 ∧ rw4 l (3 - o) 24 = 0)) : latB l = false := by
  have hp : (List.range 24).all (parL l) = false := by
    rw [Bool.eq_false_iff]
    exact fun e => h ((par_words ho).1 e)
  unfold latB
  rw [hp]
  rfl

end Go.Proofs.Ythbgmmjgenkjpaa.Res
