/- Plain laws on moves of the line: moves go one after the other as their matrices do; they are moved back. -/
import Derived.Test.YteedbejlbjfkgaaLn
set_option linter.unusedVariables false
namespace Go.Proofs.Yteedbejlbjfkgaa.Res

/-- 1 over an element of the field of 23. -/
def finv (u : Fin 23) : Fin 23 := Fin.ofNat 23 (invN u.val)
theorem finv_mul : ∀ u : Fin 23, u ≠ 0 → u * finv u = 1 := by decide +kernel
theorem finv_ne : ∀ u : Fin 23, u ≠ 0 → finv u ≠ 0 := by decide +kernel
theorem fmul_ne : ∀ u v : Fin 23, u ≠ 0 → v ≠ 0 → u * v ≠ 0 := by decide +kernel

theorem quot_eq {t u v : Fin 23} (hu : u ≠ 0) (h : v * u = t) : t * finv u = v := by
  have := finv_mul u hu
  rw [← h]
  grind
theorem quot_mul {t u : Fin 23} (hu : u ≠ 0) : (t * finv u) * u = t := by
  have := finv_mul u hu
  grind

/-- A move of the line; none is the far place. -/
def mob (a b c d : Fin 23) : Option (Fin 23) → Option (Fin 23)
  | none => if c = 0 then none else some (a * finv c)
  | some x => if c * x + d = 0 then none else some ((a * x + b) * finv (c * x + d))

theorem mob_far0 {a b c d : Fin 23} (h : c = 0) : mob a b c d none = none := by simp [mob, h]
theorem mob_far1 {a b c d : Fin 23} (h : c ≠ 0) : mob a b c d none = some (a * finv c) := by simp [mob, h]
theorem mob_near0 {a b c d x : Fin 23} (h : c * x + d = 0) : mob a b c d (some x) = none := by simp [mob, h]
theorem mob_near1 {a b c d x : Fin 23} (h : c * x + d ≠ 0) : mob a b c d (some x) = some ((a * x + b) * finv (c * x + d)) := by simp [mob, h]

/-- Two moves one after the other are the move of the product. -/
theorem mob_comp (a b c d a' b' c' d' : Fin 23) (h : a * d - b * c ≠ 0) (x : Option (Fin 23)) :
    mob a' b' c' d' (mob a b c d x) = mob (a' * a + b' * c) (a' * b + b' * d) (c' * a + d' * c) (c' * b + d' * d) x := by
  cases x with
  | none =>
    by_cases hc : c = 0
    · rw [mob_far0 hc]
      have ha : a ≠ 0 := by intro e; apply h; rw [e, hc]; grind
      by_cases hc' : c' = 0
      · rw [mob_far0 hc', mob_far0 (by rw [hc, hc']; grind)]
      · have hn : c' * a + d' * c ≠ 0 := by
          have := fmul_ne c' a hc' ha
          rw [hc]; grind
        rw [mob_far1 hc', mob_far1 hn]
        congr 1
        symm
        apply quot_eq hn
        have := finv_mul c' hc'
        rw [hc]
        grind
    · rw [mob_far1 hc]
      have hy := quot_mul (t := a) hc
      generalize a * finv c = y at hy
      have key : (c' * y + d') * c = c' * a + d' * c := by rw [← hy]; grind
      by_cases hu : c' * y + d' = 0
      · rw [mob_near0 hu, mob_far0 (by rw [← key, hu]; grind)]
      · have hn : c' * a + d' * c ≠ 0 := by rw [← key]; exact fmul_ne _ _ hu hc
        rw [mob_near1 hu, mob_far1 hn]
        congr 1
        symm
        apply quot_eq hn
        have hz := quot_mul (t := a' * y + b') hu
        generalize (a' * y + b') * finv (c' * y + d') = z at hz
        rw [← key]
        have : z * ((c' * y + d') * c) = (z * (c' * y + d')) * c := by grind
        rw [this, hz]
        have : (a' * y + b') * c = a' * (y * c) + b' * c := by grind
        rw [this, hy]
  | some x =>
    by_cases hc : c * x + d = 0
    · rw [mob_near0 hc]
      have ha : a * x + b ≠ 0 := by
        intro e
        apply h
        by_cases hc0 : c = 0
        · have hd : d = 0 := by rw [hc0] at hc; grind
          rw [hc0, hd]; grind
        · have h1 := finv_mul c hc0
          have hx : x = -d * finv c := by grind
          grind
      by_cases hc' : c' = 0
      · rw [mob_far0 hc', mob_near0 (by rw [hc']; grind)]
      · have key : (c' * a + d' * c) * x + (c' * b + d' * d) = c' * (a * x + b) := by grind
        have hn : (c' * a + d' * c) * x + (c' * b + d' * d) ≠ 0 := by rw [key]; exact fmul_ne _ _ hc' ha
        rw [mob_far1 hc', mob_near1 hn]
        congr 1
        symm
        apply quot_eq hn
        have hf := finv_mul c' hc'
        rw [key]
        have e1 : a' * finv c' * (c' * (a * x + b)) = a' * (c' * finv c') * (a * x + b) := by grind
        have e2 : (a' * a + b' * c) * x + (a' * b + b' * d) = a' * (a * x + b) + b' * (c * x + d) := by grind
        rw [e1, hf, e2, hc]
        grind
    · rw [mob_near1 hc]
      have hy := quot_mul (t := a * x + b) hc
      generalize (a * x + b) * finv (c * x + d) = y at hy
      have key : (c' * a + d' * c) * x + (c' * b + d' * d) = (c' * y + d') * (c * x + d) := by
        have : (c' * y + d') * (c * x + d) = c' * (y * (c * x + d)) + d' * (c * x + d) := by grind
        rw [this, hy]
        grind
      by_cases hu : c' * y + d' = 0
      · rw [mob_near0 hu, mob_near0 (by rw [key, hu]; grind)]
      · have hn : (c' * a + d' * c) * x + (c' * b + d' * d) ≠ 0 := by rw [key]; exact fmul_ne _ _ hu hc
        rw [mob_near1 hu, mob_near1 hn]
        congr 1
        symm
        apply quot_eq hn
        have hz := quot_mul (t := a' * y + b') hu
        generalize (a' * y + b') * finv (c' * y + d') = z at hz
        rw [key]
        have : z * ((c' * y + d') * (c * x + d)) = (z * (c' * y + d')) * (c * x + d) := by grind
        rw [this, hz]
        have : (a' * y + b') * (c * x + d) = a' * (y * (c * x + d)) + b' * (c * x + d) := by grind
        rw [this, hy]
        grind

/-- A multiple of the unit matrix moves nothing. -/
theorem mob_unit {k : Fin 23} (hk : k ≠ 0) (x : Option (Fin 23)) : mob k 0 0 k x = x := by
  cases x with
  | none => exact mob_far0 rfl
  | some x =>
    have hn : (0 : Fin 23) * x + k ≠ 0 := by grind
    rw [mob_near1 hn]
    congr 1
    apply quot_eq hn
    grind

/-- Moved back. -/
theorem mob_back (a b c d : Fin 23) (h : a * d - b * c ≠ 0) (x : Option (Fin 23)) : mob d (-b) (-c) a (mob a b c d x) = x := by
  rw [mob_comp a b c d d (-b) (-c) a h]
  have e1 : d * a + -b * c = a * d - b * c := by grind
  have e2 : d * b + -b * d = 0 := by grind
  have e3 : -c * a + a * c = 0 := by grind
  have e4 : -c * b + a * d = a * d - b * c := by grind
  rw [e1, e2, e3, e4]
  exact mob_unit h x

end Go.Proofs.Yteedbejlbjfkgaa.Res
