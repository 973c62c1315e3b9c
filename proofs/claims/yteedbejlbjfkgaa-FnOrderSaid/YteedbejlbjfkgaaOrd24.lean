/- Plain laws: the orders of the permutations that keep the code. -/
import Derived.Test.YteedbejlbjfkgaaOrdC
set_option linter.unusedVariables false
namespace Go.Proofs.Yteedbejlbjfkgaa
open Res

theorem itN_front (f : Nat → Nat) (i m : Nat) : itN f i (m + 1) = itN f (f i) m := by
  induction m with
  | zero => rfl
  | succ m ih =>
    show f (itN f i (m + 1)) = _
    rw [ih]
    rfl
theorem back_of {g : List Int} {n : Nat} {f : Nat → Nat} (hp : okTo g 24) (hb : ∀ i, i < 24 → itN f i n = i) (hQ : ∀ i, i < 24 → f (goes g i) = i) : backP g n := by
  have key : ∀ m i, i < 24 → itN (f) (itP g i m) m = i := by
    intro m
    induction m with
    | zero => intro i _; rfl
    | succ m ih =>
      intro i hi
      have e1 : itP g i (m + 1) = goes g (itP g i m) := rfl
      rw [itN_front, e1, hQ _ (itP_lt hp hi m)]
      exact ih i hi
  intro i hi
  have h1 := key n i hi
  rw [hb _ (itP_lt hp hi n)] at h1
  exact h1

/-- What keeps the code and moves 0, 1, 2, 3 to 1, 2, 3, 4. -/
theorem shift_back {g : List Int} (hk : keepB g = true) (g0 : goes g 0 = 1) (g1 : goes g 1 = 2) (g2 : goes g 2 = 3) (g3 : goes g 3 = 4) : ∃ n, n ∈ ordL ∧ backP g n := by
  have hne : ∀ (u : List Int), keepB u = true → ∀ i j, i < 24 → j < 24 → i ≠ j → goes u i ≠ goes u j := fun u hu i j hi hj hij e => hij (keep_inj hu hi hj e)
  have ka := tm_keep hk keepS
  have ea : ∀ i, i < 24 → goes (tmL g (unL pS)) i = pk pS (goes g i) := fun i hi => by rw [tmL_goes _ _ hi, unL_goes (keep_lt hk hi)]
  have a0 : goes (tmL g (unL pS)) 0 = 0 := by rw [ea 0 (by omega), g0]; exact goS.1
  have a1 : goes (tmL g (unL pS)) 1 = 1 := by rw [ea 1 (by omega), g1]; exact goS.2.1
  have a2 : goes (tmL g (unL pS)) 2 = 2 := by rw [ea 2 (by omega), g2]; exact goS.2.2.1
  have a3 : goes (tmL g (unL pS)) 3 = 3 := by rw [ea 3 (by omega), g3]; exact goS.2.2.2
  generalize tmL g (unL pS) = A at ka ea a0 a1 a2 a3
  have hx := keep_lt ka (show 4 < 24 by omega)
  have x0 : goes A 4 ≠ 0 := by rw [← a0]; exact hne A ka 4 0 (by omega) (by omega) (by omega)
  have x1 : goes A 4 ≠ 1 := by rw [← a1]; exact hne A ka 4 1 (by omega) (by omega) (by omega)
  have x2 : goes A 4 ≠ 2 := by rw [← a2]; exact hne A ka 4 2 (by omega) (by omega) (by omega)
  have x3 : goes A 4 ≠ 3 := by rw [← a3]; exact hne A ka 4 3 (by omega) (by omega) (by omega)
  generalize hX : goes A 4 = X at hx x0 x1 x2 x3
  obtain ⟨z4, p40, p41, p42, p43, p44⟩ := go4 X hx x0 x1 x2 x3
  have kb := tm_keep ka (row_keep keep4 z4)
  have eb : ∀ i, i < 24 → goes (tmL A (unL (pT4.getD X 0))) i = pk (pT4.getD X 0) (goes A i) := fun i hi => by rw [tmL_goes _ _ hi, unL_goes (keep_lt ka hi)]
  generalize tmL A (unL (pT4.getD X 0)) = B at kb eb
  have b0 : goes B 0 = 0 := by rw [eb 0 (by omega), a0]; exact p40
  have b1 : goes B 1 = 1 := by rw [eb 1 (by omega), a1]; exact p41
  have b2 : goes B 2 = 2 := by rw [eb 2 (by omega), a2]; exact p42
  have b3 : goes B 3 = 3 := by rw [eb 3 (by omega), a3]; exact p43
  have b4 : goes B 4 = 4 := by rw [eb 4 (by omega), hX]; exact p44
  have hy : goes B 5 < 8 := (oct255 kb b0 b1 b2 b3 b4 (show 5 < 24 by omega)).2 (by omega)
  have hy5 : 5 ≤ goes B 5 := by
    have y0 : goes B 5 ≠ 0 := by have := hne B kb 5 0 (by omega) (by omega) (by omega); rw [b0] at this; exact this
    have y1 : goes B 5 ≠ 1 := by have := hne B kb 5 1 (by omega) (by omega) (by omega); rw [b1] at this; exact this
    have y2 : goes B 5 ≠ 2 := by have := hne B kb 5 2 (by omega) (by omega) (by omega); rw [b2] at this; exact this
    have y3 : goes B 5 ≠ 3 := by have := hne B kb 5 3 (by omega) (by omega) (by omega); rw [b3] at this; exact this
    have y4 : goes B 5 ≠ 4 := by have := hne B kb 5 4 (by omega) (by omega) (by omega); rw [b4] at this; exact this
    omega
  generalize hY : goes B 5 = Y at hy hy5
  obtain ⟨z5, p50, p51, p52, p53, p54, p55⟩ := go5 Y hy hy5
  have kc := tm_keep kb (row_keep keep5 z5)
  have ec : ∀ i, i < 24 → goes (tmL B (unL (pT5.getD Y 0))) i = pk (pT5.getD Y 0) (goes B i) := fun i hi => by rw [tmL_goes _ _ hi, unL_goes (keep_lt kb hi)]
  generalize tmL B (unL (pT5.getD Y 0)) = C at kc ec
  have c0 : goes C 0 = 0 := by rw [ec 0 (by omega), b0]; exact p50
  have c1 : goes C 1 = 1 := by rw [ec 1 (by omega), b1]; exact p51
  have c2 : goes C 2 = 2 := by rw [ec 2 (by omega), b2]; exact p52
  have c3 : goes C 3 = 3 := by rw [ec 3 (by omega), b3]; exact p53
  have c4 : goes C 4 = 4 := by rw [ec 4 (by omega), b4]; exact p54
  have c5 : goes C 5 = 5 := by rw [ec 5 (by omega), hY]; exact p55
  have hz := keep_lt kc (show 8 < 24 by omega)
  have hz8 : 8 ≤ goes C 8 := by
    have := oct255 kc c0 c1 c2 c3 c4 (show 8 < 24 by omega)
    omega
  generalize hZ : goes C 8 = Z at hz hz8
  obtain ⟨z6, p60, p61, p62, p63, p64, p65, p68⟩ := go6 Z hz hz8
  have kd := tm_keep kc (row_keep keep6 z6)
  have ed : ∀ i, i < 24 → goes (tmL C (unL (pT6.getD Z 0))) i = pk (pT6.getD Z 0) (goes C i) := fun i hi => by rw [tmL_goes _ _ hi, unL_goes (keep_lt kc hi)]
  generalize tmL C (unL (pT6.getD Z 0)) = D at kd ed
  have hid := seven_fix kd (by rw [ed 0 (by omega), c0]; exact p60) (by rw [ed 1 (by omega), c1]; exact p61) (by rw [ed 2 (by omega), c2]; exact p62) (by rw [ed 3 (by omega), c3]; exact p63)
    (by rw [ed 4 (by omega), c4]; exact p64) (by rw [ed 5 (by omega), c5]; exact p65) (by rw [ed 8 (by omega), hZ]; exact p68)
  obtain ⟨n, hn, hb⟩ := okQ_back (chk_get (x := X) (y := Y) (z := Z) (by omega) hx hy5 hy hz8 hz)
  refine ⟨n, hn, ?_⟩
  have hQ : ∀ i, i < 24 → pk (cp (cp (cp pS (pT4.getD X 0)) (pT5.getD Y 0)) (pT6.getD Z 0)) (goes g i) = i := fun i hi => by
    have hg := keep_lt hk hi
    rw [cp_get _ _ hg, cp_get _ _ hg, cp_get _ _ hg, ← ea i hi, ← eb i hi, ← ec i hi, ← ed i hi]
    exact hid i hi
  have hp := (permOk_ok (keep_perm hk)).2
  exact back_of hp hb hQ
/-- The orders of what keeps the code. -/
theorem order_known {p : List Int} (hk : keepB p = true) : ordOk (odL (cyL p)) = true := by
  obtain ⟨hl, hp⟩ := permOk_ok (keep_perm hk)
  by_cases hs : ∀ i, i < 24 → itP p i 12 = i
  · exact ord_of (m := 12) (by decide) (od_back hp hs)
  · obtain ⟨i, hs⟩ := Classical.not_forall.1 hs
    obtain ⟨hi, hne⟩ := Classical.not_imp.1 hs
    have hd : ∀ a b, a < b → b ≤ 4 → itP p i b ≠ itP p i a := fun a b hab hb e => hne (it_twelve hp hi a b hab hb e)
    obtain ⟨h, kh, e0, e1, e2, e3, e4⟩ := five_move (itP_lt hp hi 0) (itP_lt hp hi 1) (itP_lt hp hi 2) (itP_lt hp hi 3) (itP_lt hp hi 4)
      (hd 0 1 (by omega) (by omega)) (hd 0 2 (by omega) (by omega)) (hd 1 2 (by omega) (by omega)) (hd 0 3 (by omega) (by omega)) (hd 1 3 (by omega) (by omega)) (hd 2 3 (by omega) (by omega))
      (hd 0 4 (by omega) (by omega)) (hd 1 4 (by omega) (by omega)) (hd 2 4 (by omega) (by omega)) (hd 3 4 (by omega) (by omega))
    obtain ⟨lh, oh⟩ := permOk_ok (keep_perm kh)
    have kt := keep_turn kh
    have kg := tm_keep (tm_keep kt hk) kh
    have eg : ∀ j, j < 24 → goes (tmL (tmL (tnL h) p) h) (goes h j) = goes h (goes p j) := fun j hj => by
      rw [tmL_goes _ _ (keep_lt kh hj), tmL_goes _ _ (keep_lt kh hj), tnL_goes oh hj]
    obtain ⟨n, hn, hb⟩ := shift_back kg (by rw [← e0, eg _ (itP_lt hp hi 0)]; exact e1) (by rw [← e1, eg _ (itP_lt hp hi 1)]; exact e2)
      (by rw [← e2, eg _ (itP_lt hp hi 2)]; exact e3) (by rw [← e3, eg _ (itP_lt hp hi 3)]; exact e4)
    generalize tmL (tmL (tnL h) p) h = G at eg hb
    have hit : ∀ m j, j < 24 → itP G (goes h j) m = goes h (itP p j m) := by
      intro m
      induction m with
      | zero => intro j _; rfl
      | succ m ih =>
        intro j hj
        show goes G (itP G (goes h j) m) = _
        rw [ih j hj, eg _ (itP_lt hp hj m)]
        rfl
    refine ord_of hn (od_back hp fun j hj => ?_)
    have h1 := hb _ (keep_lt kh hj)
    rw [hit n j hj] at h1
    exact keep_inj kh (itP_lt hp hj n) hj h1

end Go.Proofs.Yteedbejlbjfkgaa
