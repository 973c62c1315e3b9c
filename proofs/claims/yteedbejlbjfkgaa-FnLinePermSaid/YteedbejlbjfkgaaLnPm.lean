/- Plain laws: moves of the line keep the line's code; their orders divide 11, 12 or 23. -/
import Derived.Test.YteedbejlbjfkgaaLnMv
import Derived.Test.YteedbejlbjfkgaaLnDual
import Derived.Test.YteedbejlbjfkgaaMobN
import Derived.Test.YteedbejlbjfkgaaWMw
import Derived.Test.YteedbejlbjfkgaaOd
import Derived.Test.YteedbejlbjfkgaaItP
set_option linter.unusedVariables false
namespace Go.Proofs.Yteedbejlbjfkgaa
open Res

/-- Does a permutation keep the line code? -/
def lkeep (p : List Int) : Bool := permOk p && (List.range 24).all (fun k => lineInB (mvW p (blEnd.getD k 0)))
theorem lkeep_perm {p : List Int} (h : lkeep p = true) : permOk p = true := by
  unfold lkeep at h
  rw [Bool.and_eq_true] at h
  exact h.1
theorem lkeep_get {p : List Int} (h : lkeep p = true) {k : Nat} (hk : k < 24) : lineInB (mvW p (blEnd.getD k 0)) = true := by
  unfold lkeep at h
  rw [Bool.and_eq_true, List.all_eq_true] at h
  exact h.2 k (List.mem_range.2 hk)
theorem lineIn_zero : lineInB 0 = true := by decide +kernel
theorem blEnd_lt (p : Nat) : blEnd.getD p 0 < 2 ^ 24 := by
  rw [← blTo_end]
  exact blTo_lt (by omega) p
/-- The rest and the word differ by a sum of words of the basis. -/
theorem rst_mv {p : List Int} (h : lkeep p = true) {x : Nat} (hx : x < 2 ^ 24) (n : Nat) (hn : n ≤ 24) : lineInB (mvW p (x ^^^ rst blEnd x n)) = true := by
  obtain ⟨hl, hp⟩ := permOk_ok (lkeep_perm h)
  induction n with
  | zero =>
    rw [rst_zero, Nat.xor_self]
    have : mvW p 0 = 0 := by
      apply word_ext (mvW_lt hp 0) (by omega)
      intro j hj
      obtain ⟨i, hi, rfl⟩ := goes_onto hl hp hj
      rw [mvW_goes hp 0 hi, Nat.zero_testBit, Nat.zero_testBit]
    rw [this]
    exact lineIn_zero
  | succ n ih =>
    have ih := ih (by omega)
    cases hb : (rst blEnd x n).testBit (23 - n)
    · rw [rst_miss hb]; exact ih
    · rw [rst_hit hb, ← Nat.xor_assoc, mvW_xor hl hp]
      exact lineIn_xor ih (lkeep_get h (by omega))
theorem lkeep_in {p : List Int} (h : lkeep p = true) {x : Nat} (hx : x < 2 ^ 24) (hin : lineInB x = true) : lineInB (mvW p x) = true := by
  have h1 := rst_mv h hx 24 (Nat.le_refl _)
  unfold lineInB at hin
  rw [beq_iff_eq] at hin
  rw [hin, Nat.xor_zero] at h1
  exact h1
theorem bl_in : ∀ k, k < 24 → lineInB (blEnd.getD k 0) = true := by decide +kernel
theorem tm_ok {p q : List Int} (hp : permOk p = true) (hq : permOk q = true) : permOk (tmL p q) = true :=
  (permOk_iff _).2 ⟨tmTo_length _ _ _, tmL_ok (permOk_ok hp).2 (permOk_ok hq).2⟩
theorem lkeep_tm {p q : List Int} (h1 : lkeep p = true) (h2 : lkeep q = true) : lkeep (tmL p q) = true := by
  have hp := lkeep_perm h1
  have hq := lkeep_perm h2
  obtain ⟨lp', op⟩ := permOk_ok hp
  obtain ⟨lq, oq⟩ := permOk_ok hq
  unfold lkeep
  rw [Bool.and_eq_true, List.all_eq_true]
  refine ⟨tm_ok hp hq, fun k hk => ?_⟩
  rw [mvW_tm lp' op lq oq]
  exact lkeep_in h2 (mvW_lt op _) (lkeep_get h1 (List.mem_range.1 hk))
/-- Only where the places go counts. -/
theorem mvW_same {p q : List Int} (h : ∀ i, i < 24 → goes p i = goes q i) (w : Nat) : mvW p w = mvW q w := by
  have : ∀ k, k ≤ 24 → mw p w k = mw q w k := by
    intro k
    induction k with
    | zero => intro _; rfl
    | succ k ih =>
      intro hk
      simp only [mw]
      rw [ih (by omega), h k (by omega)]
  exact this 24 (Nat.le_refl _)

theorem lp_goes {a b c d x : Nat} (hx : x < 24) : goes (ints (lp a b c d)) x = lm a b c d x := by
  unfold goes
  rw [ints_get]
  unfold lp
  simp [List.getD, hx]
theorem lp_mob {a b c d x : Nat} (hc : c ≤ 22) (hx : x < 24) : goes (ints (lp a b c d)) x = ofP (mob (toF a) (toF b) (toF c) (toF d) (toP x)) := by
  rw [lp_goes hx, lm_mob hc]

theorem keep_shift : ∀ b, b < 23 → lkeep (ints (lp 1 b 0 1)) = true := by decide +kernel
theorem keep_scale : ∀ k, k < 23 → sq ((k : Nat) : Int) = true → lkeep (ints (lp k 0 0 1)) = true := by decide +kernel
theorem keep_turnL : lkeep (ints (lp 0 22 1 0)) = true := by decide +kernel

theorem mob_scale (k a b c d : Fin 23) (hk : k ≠ 0) (h : a * d - b * c ≠ 0) (x : Option (Fin 23)) : mob (k * a) (k * b) (k * c) (k * d) x = mob a b c d x := by
  have h1 := mob_comp a b c d k 0 0 k h x
  rw [mob_unit hk] at h1
  rw [h1]
  have e1 : k * a + 0 * c = k * a := by grind
  have e2 : k * b + 0 * d = k * b := by grind
  have e3 : 0 * a + k * c = k * c := by grind
  have e4 : 0 * b + k * d = k * d := by grind
  rw [e1, e2, e3, e4]
theorem lmob_lt {a b c d x : Nat} : ofP (mob (toF a) (toF b) (toF c) (toF d) (toP x)) < 24 := by
  have := ofP_le (mob (toF a) (toF b) (toF c) (toF d) (toP x))
  omega
theorem tm_mob {a b c d a' b' c' d' : Nat} (hc : c ≤ 22) (hc' : c' ≤ 22) {x : Nat} (hx : x < 24) (q : List Int) (hq : ∀ y, y < 24 → goes q y = ofP (mob (toF a') (toF b') (toF c') (toF d') (toP y))) (p : List Int) (hp : goes p x = ofP (mob (toF a) (toF b) (toF c) (toF d) (toP x))) :
    goes (tmL p q) x = ofP (mob (toF a') (toF b') (toF c') (toF d') (mob (toF a) (toF b) (toF c) (toF d) (toP x))) := by
  rw [tmL_goes _ _ hx, hp, hq _ lmob_lt, toP_ofP]
/-- A move that is told by numbers of the field. -/
def fperm (a b c d : Fin 23) : List Int := ints (lp a.val b.val c.val d.val)
theorem toF_of (a : Fin 23) : toF a.val = a := by
  apply Fin.ext
  rw [toF_val]
  exact Nat.mod_eq_of_lt a.isLt
theorem fperm_goes (a b c d : Fin 23) {x : Nat} (hx : x < 24) : goes (fperm a b c d) x = ofP (mob a b c d (toP x)) := by
  unfold fperm
  rw [lp_mob (by have := c.isLt; omega) hx, toF_of, toF_of, toF_of, toF_of]
theorem fperm_lt (a b c d : Fin 23) (x : Nat) : ofP (mob a b c d (toP x)) < 24 := by
  have := ofP_le (mob a b c d (toP x))
  omega
theorem fperm_tm (a b c d a' b' c' d' : Fin 23) (h : a * d - b * c ≠ 0) {x : Nat} (hx : x < 24) :
    goes (tmL (fperm a b c d) (fperm a' b' c' d')) x = goes (fperm (a' * a + b' * c) (a' * b + b' * d) (c' * a + d' * c) (c' * b + d' * d)) x := by
  rw [tmL_goes _ _ hx, fperm_goes _ _ _ _ hx, fperm_goes _ _ _ _ (fperm_lt _ _ _ _ _), toP_ofP, mob_comp _ _ _ _ _ _ _ _ h, fperm_goes _ _ _ _ hx]
/-- A permutation that acts as a move, and keeps the line code. -/
def LK (a b c d : Fin 23) : Prop := ∃ p, lkeep p = true ∧ ∀ x, x < 24 → goes p x = ofP (mob a b c d (toP x))
theorem LK_comp {a b c d a' b' c' d' : Fin 23} (h : a * d - b * c ≠ 0) (h1 : LK a b c d) (h2 : LK a' b' c' d') : LK (a' * a + b' * c) (a' * b + b' * d) (c' * a + d' * c) (c' * b + d' * d) := by
  obtain ⟨p, kp, gp⟩ := h1
  obtain ⟨q, kq, gq⟩ := h2
  refine ⟨tmL p q, lkeep_tm kp kq, fun x hx => ?_⟩
  rw [tmL_goes _ _ hx, gp x hx, gq _ (fperm_lt _ _ _ _ _), toP_ofP, mob_comp _ _ _ _ _ _ _ _ h]
theorem LK_shift (b : Fin 23) : LK 1 b 0 1 := ⟨fperm 1 b 0 1, keep_shift b.val b.isLt, fun x hx => fperm_goes _ _ _ _ hx⟩
theorem LK_scale (k : Fin 23) (h : sq ((k.val : Nat) : Int) = true) : LK k 0 0 1 := ⟨fperm k 0 0 1, keep_scale k.val k.isLt h, fun x hx => fperm_goes _ _ _ _ hx⟩
theorem LK_turn : LK 0 22 1 0 := ⟨fperm 0 22 1 0, keep_turnL, fun x hx => fperm_goes _ _ _ _ hx⟩
theorem LK_same {a b c d a' b' c' d' : Fin 23} (k : Fin 23) (hk : k ≠ 0) (h : a * d - b * c ≠ 0) (e1 : a' = k * a) (e2 : b' = k * b) (e3 : c' = k * c) (e4 : d' = k * d) (hL : LK a' b' c' d') : LK a b c d := by
  obtain ⟨p, kp, gp⟩ := hL
  refine ⟨p, kp, fun x hx => ?_⟩
  rw [gp x hx, e1, e2, e3, e4, mob_scale k a b c d hk h]
/-- The determinant over a square is a square. -/
theorem sq_div : ∀ δ : Fin 23, sq ((δ.val : Nat) : Int) = true → ∀ c : Fin 23, c ≠ 0 → sq (((δ * finv c * finv c).val : Nat) : Int) = true := by decide +kernel
theorem sq_quot : ∀ a d : Fin 23, sq (((a * d).val : Nat) : Int) = true → sq (((a * finv d).val : Nat) : Int) = true := by decide +kernel
theorem sqF_ne : ∀ δ : Fin 23, sq ((δ.val : Nat) : Int) = true → δ ≠ 0 := by decide +kernel
theorem LK_all {a b c d : Fin 23} (hs : sq (((a * d - b * c).val : Nat) : Int) = true) : LK a b c d := by
  have hdet := sqF_ne _ hs
  by_cases hc : c = 0
  · subst hc
    have hs2 : sq (((a * d).val : Nat) : Int) = true := by
      have : a * d - b * 0 = a * d := by grind
      rw [this] at hs; exact hs
    have hd : d ≠ 0 := by intro e; rw [e] at hdet; apply hdet; grind
    have hi := finv_mul d hd
    have hin := finv_ne d hd
    have L1 := LK_scale _ (sq_quot a d hs2)
    have hdet1 : a * finv d * 1 - 0 * 0 ≠ 0 := by
      have := sqF_ne _ (sq_quot a d hs2)
      grind
    have L2 := LK_comp hdet1 L1 (LK_shift (b * finv d))
    refine LK_same (finv d) hin hdet ?_ ?_ ?_ ?_ L2
    · grind
    · grind
    · grind
    · grind
  · have hi := finv_mul c hc
    have hin := finv_ne c hc
    have hs2 := sq_div _ hs c hc
    have L1 := LK_shift (d * finv c)
    have L2 := LK_comp (by grind) L1 LK_turn
    have hk := sqF_ne _ hs2
    have e22 : (22 : Fin 23) = -1 := by decide
    rw [e22] at L2
    have L3 := LK_comp (by grind) L2 (LK_scale _ hs2)
    have L4 := LK_comp (by
      generalize (a * d - b * c) * finv c * finv c = s at *
      intro e
      apply hk
      grind) L3 (LK_shift (a * finv c))
    refine LK_same (finv c) hin hdet ?_ ?_ ?_ ?_ L4
    · grind
    · grind
    · grind
    · grind

/-- Lucas numbers: u(n) of trace and determinant. -/
def luc (t δ : Fin 23) : Nat → Fin 23 × Fin 23
  | 0 => (0, 0 - finv δ)
  | n + 1 => (t * (luc t δ n).1 - δ * (luc t δ n).2, (luc t δ n).1)
theorem luc_end : ∀ t δ : Fin 23, sq ((δ.val : Nat) : Int) = true → ((luc t δ 11).1 = 0 ∧ (luc t δ 11).2 ≠ 0) ∨ ((luc t δ 12).1 = 0 ∧ (luc t δ 12).2 ≠ 0) ∨ ((luc t δ 23).1 = 0 ∧ (luc t δ 23).2 ≠ 0) := by decide +kernel
def mobN (a b c d : Fin 23) (x : Option (Fin 23)) : Nat → Option (Fin 23)
  | 0 => x
  | n + 1 => mob a b c d (mobN a b c d x n)
theorem mobN_front (a b c d : Fin 23) (x : Option (Fin 23)) (n : Nat) : mobN a b c d x (n + 1) = mobN a b c d (mob a b c d x) n := by
  induction n with
  | zero => rfl
  | succ n ih =>
    show mob a b c d (mobN a b c d x (n + 1)) = _
    rw [ih]
    rfl
theorem mobN_luc (a b c d : Fin 23) (h : a * d - b * c ≠ 0) (n : Nat) : ∀ x, mobN a b c d x n =
    mob ((luc (a + d) (a * d - b * c) n).1 * a - (a * d - b * c) * (luc (a + d) (a * d - b * c) n).2) ((luc (a + d) (a * d - b * c) n).1 * b) ((luc (a + d) (a * d - b * c) n).1 * c)
      ((luc (a + d) (a * d - b * c) n).1 * d - (a * d - b * c) * (luc (a + d) (a * d - b * c) n).2) x := by
  induction n with
  | zero =>
    intro x
    have hi := finv_mul _ h
    have e1 : (luc (a + d) (a * d - b * c) 0).1 = 0 := rfl
    have e2 : (luc (a + d) (a * d - b * c) 0).2 = 0 - finv (a * d - b * c) := rfl
    rw [e1, e2]
    have f1 : 0 * a - (a * d - b * c) * (0 - finv (a * d - b * c)) = 1 := by grind
    have f2 : 0 * b = 0 := by grind
    have f3 : 0 * c = 0 := by grind
    have f4 : 0 * d - (a * d - b * c) * (0 - finv (a * d - b * c)) = 1 := by grind
    rw [f1, f2, f3, f4, mob_unit (by decide)]
    rfl
  | succ n ih =>
    intro x
    have e1 : (luc (a + d) (a * d - b * c) (n + 1)).1 = (a + d) * (luc (a + d) (a * d - b * c) n).1 - (a * d - b * c) * (luc (a + d) (a * d - b * c) n).2 := rfl
    have e2 : (luc (a + d) (a * d - b * c) (n + 1)).2 = (luc (a + d) (a * d - b * c) n).1 := rfl
    rw [mobN_front, ih (mob a b c d x), mob_comp _ _ _ _ _ _ _ _ h, e1, e2]
    generalize (luc (a + d) (a * d - b * c) n).1 = u
    generalize (luc (a + d) (a * d - b * c) n).2 = v
    congr 1 <;> grind
theorem mobN_end {a b c d : Fin 23} (h : a * d - b * c ≠ 0) {n : Nat} (h0 : (luc (a + d) (a * d - b * c) n).1 = 0) (h1 : (luc (a + d) (a * d - b * c) n).2 ≠ 0) (x : Option (Fin 23)) : mobN a b c d x n = x := by
  rw [mobN_luc a b c d h n x, h0]
  generalize (luc (a + d) (a * d - b * c) n).2 = v at *
  have hm := fmul_ne _ _ h h1
  generalize hk : (a * d - b * c) * v = k at *
  have f1 : 0 * a - k = -k := by grind
  have f2 : 0 * b = 0 := by grind
  have f3 : 0 * c = 0 := by grind
  have f4 : 0 * d - k = -k := by grind
  rw [f1, f2, f3, f4]
  exact mob_unit (by intro e; apply hm; grind) x

/-- The determinant, in the field. -/
theorem detF {a b c d : Nat} (h : sq (((a : Int) * (d : Int) - (b : Int) * (c : Int)) % 23) = true) : sq (((toF a * toF d - toF b * toF c).val : Nat) : Int) = true := by
  have e : (((toF a * toF d - toF b * toF c).val : Nat) : Int) = ((a : Int) * (d : Int) - (b : Int) * (c : Int)) % 23 := by
    have h1 : (toF a * toF d).val = a * d % 23 := by rw [Fin.val_mul, toF_val, toF_val, ← Nat.mul_mod]
    have h2 : (toF b * toF c).val = b * c % 23 := by rw [Fin.val_mul, toF_val, toF_val, ← Nat.mul_mod]
    generalize toF a * toF d = x at *
    generalize toF b * toF c = y at *
    have hx := x.isLt
    have hy := y.isLt
    have e3 : ((a : Int) * (d : Int)) % 23 = ((x.val : Nat) : Int) := by rw [h1]; push_cast; rfl
    have e4 : ((b : Int) * (c : Int)) % 23 = ((y.val : Nat) : Int) := by rw [h2]; push_cast; rfl
    rw [Fin.sub_def]
    simp only
    omega
  rw [e]
  exact h
theorem itP_mob {a b c d : Nat} (hc : c ≤ 22) {i : Nat} (hi : i < 24) (n : Nat) : itP (ints (lp a b c d)) i n = ofP (mobN (toF a) (toF b) (toF c) (toF d) (toP i) n) := by
  induction n with
  | zero => exact (ofP_toP (show i ≤ 23 by omega)).symm
  | succ n ih =>
    show goes (ints (lp a b c d)) (itP (ints (lp a b c d)) i n) = _
    have hl : ofP (mobN (toF a) (toF b) (toF c) (toF d) (toP i) n) < 24 := by
      have := ofP_le (mobN (toF a) (toF b) (toF c) (toF d) (toP i) n)
      omega
    rw [ih, lp_mob hc hl, toP_ofP]
    rfl
theorem lp_length (a b c d : Nat) : (ints (lp a b c d)).length = 24 := by
  rw [ints_length]
  exact lpTo_length a b c d 24
/-- Moves of the line: permutations that keep its code, with orders that divide 11, 12 or 23. -/
theorem lp_facts {a b c d : Nat} (h : mOk a b c d = true) :
    permOk (ints (lp a b c d)) = true ∧ (∀ i, i < 23 → lineInB (mvW (ints (lp a b c d)) (gen i)) = true) ∧
      (odL (cyL (ints (lp a b c d))) ∣ 11 ∨ odL (cyL (ints (lp a b c d))) ∣ 12 ∨ odL (cyL (ints (lp a b c d))) ∣ 23) := by
  obtain ⟨⟨-, a1⟩, ⟨-, b1⟩, ⟨-, c1⟩, ⟨-, d1⟩, hs⟩ := mOk_bd h
  have hc : c ≤ 22 := by omega
  have hsF := detF hs
  have hdet := sqF_ne _ hsF
  obtain ⟨q, kq, gq⟩ := LK_all hsF
  obtain ⟨lq, oq⟩ := permOk_ok (lkeep_perm kq)
  have hg : ∀ x, x < 24 → goes (ints (lp a b c d)) x = goes q x := fun x hx => by rw [lp_mob hc hx, gq x hx]
  have hp : okTo (ints (lp a b c d)) 24 := by
    refine okTo_of (goes q) (fun i hi => ⟨?_, goes_lt oq hi⟩) (fun i j hij hj e => ?_)
    · rw [← hg i hi]
      unfold goes
      rw [ints_get]
      simp
    · have := goes_inj oq (show i < 24 by omega) hj e
      omega
  have hpk : permOk (ints (lp a b c d)) = true := (permOk_iff _).2 ⟨lp_length a b c d, hp⟩
  refine ⟨hpk, fun i hi => ?_, ?_⟩
  · rw [mvW_same hg]
    refine lkeep_in kq (gen_le i hi) ?_
    exact gen_in hi
  · have hback : ∀ n, (luc (toF a + toF d) (toF a * toF d - toF b * toF c) n).1 = 0 → (luc (toF a + toF d) (toF a * toF d - toF b * toF c) n).2 ≠ 0 → odL (cyL (ints (lp a b c d))) ∣ n := fun n h0 h1 => by
      refine od_back hp fun i hi => ?_
      rw [itP_mob hc hi, mobN_end hdet h0 h1, ofP_toP (by omega)]
    rcases luc_end (toF a + toF d) _ hsF with ⟨h0, h1⟩ | ⟨h0, h1⟩ | ⟨h0, h1⟩
    · exact .inl (hback 11 h0 h1)
    · exact .inr (.inl (hback 12 h0 h1))
    · exact .inr (.inr (hback 23 h0 h1))

end Go.Proofs.Yteedbejlbjfkgaa
