/- Proves the given statement on laws.FnExactLatticeAdd: whatever the input, the law returns true and its input reads as it did. No conditions. -/
import Derived.Test.YthbgmmjgenkjpaaFr
import Derived.Test.YthbgmmjgenkjpaaWrd
import Derived.Test.YthbgmmjgenkjpaaWAdd
import Derived.Test.YthbgmmjgenkjpaaWEq
import Derived.Test.YthbgmmjgenkjpaaWMark
set_option linter.unusedVariables false
namespace Go.Proofs.Ythbgmmjgenkjpaa.fnExactLatticeAdd
open Go.ChangeShapes Go.WideShapes Go.ChangeAt Go.RowKit
open Go.ChangeMaps (open_string shut_string)
open Res

set_option maxHeartbeats 1000000 in
theorem walk (a0 : Option Addr) (len0 cap0 : Nat) (z0 : List Int) (a1 : Option Addr) (len1 cap1 : Nat) (z1 : List Int) (w : World)
    (w0 : IsRow .i64 w a0 len0 cap0 z0) (w1 : IsRow .i64 w a1 len1 cap1 z1) :
    Calls Try.prog 4 #[.slice a0 len0 cap0, .slice a1 len1 cap1] w fun e w' => e = .returned (.bool true) ∧ Below w.heap.size w w' := by
  obtain ⟨hr, hlen, hlc, hcap, -⟩ := w0.reads
  obtain ⟨hr2, hlen2, hlc2, hcap2, -⟩ := w1.reads
  clear w0 w1
  generalize z0.take len0 = l at *
  generalize z1.take len1 = m at *
  subst hlen
  subst hlen2
  by_cases hbig : 1048576 < l.length
  · go_enter Try.func4, Try.ntmps4
    go_wp2
    go_ret
    exact ⟨rfl, Below.refl _ _⟩
  have hl : (l.length : Int) ≤ 1048576 := by omega
  by_cases hbig2 : 1048576 < m.length
  · go_enter Try.func4, Try.ntmps4
    go_wp2
    go_ret
    exact ⟨rfl, Below.refl _ _⟩
  have hm : (m.length : Int) ≤ 1048576 := by omega
  have hb0 := Below.refl w.heap.size w
  cases hv : (latOk l && latOk m)
  · have hL : ([] : List Int).length ≤ 24 := by simp
    have C1 := Lib.hid (fun a c b d (w : World) (hr : Reads .i64 w a l) (hs : Reads .i64 w b m) => specLatticeAdd_no a b c d l m w (by omega) (by omega) hr hs hv)
    have C2 := Lib.hid (fun a c b d (w : World) (hr : Reads .i64 w a l) (hs : Reads .i64 w b m) => implLatticeAdd_no a b c d l m w (by omega) (by omega) hr hs hv)
    clear hv
    go_enter Try.func4, Try.ntmps4
    go_wp2_with fail
    refine (toIntS_any _ _ l _ (by omega) hr).mono ?_
    rintro e w1 ⟨v1, rfl, hO1, hs1⟩
    obtain ⟨a1, c1, rfl, hR1, hl1, hc1⟩ := hO1.shape
    have hb1 := hb0.trans (hs1.mono hb0.size)
    go_wp2_with fail
    refine (toIntS_any _ _ m _ (by omega) (hr2.kept hb1)).mono ?_
    rintro e w2 ⟨v2, rfl, hO2, hs2⟩
    obtain ⟨a2, c2, rfl, hR2, hl2, hc2⟩ := hO2.shape
    have hb2 := hb1.trans (hs2.mono hb1.size)
    go_wp2_with fail
    refine (C1.out _ _ _ _ _ (hR1.kept hs2) hR2).mono ?_
    rintro e w3 ⟨v3, rfl, hO3, hs3⟩
    obtain ⟨a3, c3, rfl, hR3, hl3, hc3⟩ := hO3.shape
    have hb3 := hb2.trans (hs3.mono hb2.size)
    go_wp2_with fail
    refine (toIntS_any _ _ l _ (by omega) (hr.kept hb3)).mono ?_
    rintro e w4 ⟨v4, rfl, hO4, hs4⟩
    obtain ⟨a4, c4, rfl, hR4, hl4, hc4⟩ := hO4.shape
    have hb4 := hb3.trans (hs4.mono hb3.size)
    go_wp2_with fail
    refine (toIntS_any _ _ m _ (by omega) (hr2.kept hb4)).mono ?_
    rintro e w5 ⟨v5, rfl, hO5, hs5⟩
    obtain ⟨a5, c5, rfl, hR5, hl5, hc5⟩ := hO5.shape
    have hb5 := hb4.trans (hs5.mono hb4.size)
    go_wp2_with fail
    refine (C2.out _ _ _ _ _ (hR4.kept hs5) hR5).mono ?_
    rintro e w6 ⟨v6, rfl, hO6, hs6⟩
    obtain ⟨a6, c6, rfl, hR6, hl6, hc6⟩ := hO6.shape
    have hb6 := hb5.trans (hs6.mono hb5.size)
    go_wp2_with fail
    refine (eqIntS_any _ _ _ _ [] [] _ (by omega) (by omega) hR6 (hR3.kept (bel2 (bel2 hs4 hs5) hs6))).mono ?_
    rintro e w7 ⟨rfl, hs7⟩
    have hb7 := hb6.trans (hs7.mono hb6.size)
    go_wp2_with fail
    refine (toIntS_any _ _ l _ (by omega) (hr.kept hb7)).mono ?_
    rintro e w8 ⟨v8, rfl, hO8, hs8⟩
    obtain ⟨a8, c8, rfl, hR8, hl8, hc8⟩ := hO8.shape
    have hb8 := hb7.trans (hs8.mono hb7.size)
    go_wp2_with fail
    refine (eqIntS_any _ _ _ _ l l _ (by omega) (by omega) (hR4.kept (bel2 (bel2 (bel2 hs5 hs6) hs7) hs8)) hR8).mono ?_
    rintro e w9 ⟨rfl, hs9⟩
    have hb9 := hb8.trans (hs9.mono hb8.size)
    go_wp2_with fail
    refine (toIntS_any _ _ m _ (by omega) (hr2.kept hb9)).mono ?_
    rintro e w10 ⟨v10, rfl, hO10, hs10⟩
    obtain ⟨a10, c10, rfl, hR10, hl10, hc10⟩ := hO10.shape
    have hb10 := hb9.trans (hs10.mono hb9.size)
    go_wp2_with fail
    refine (eqIntS_any _ _ _ _ m m _ (by omega) (by omega) (hR5.kept (bel2 (bel2 (bel2 (bel2 hs6 hs7) hs8) hs9) hs10)) hR10).mono ?_
    rintro e w11 ⟨rfl, hs11⟩
    have hb11 := hb10.trans (hs11.mono hb10.size)
    have hM4 := (hO4.kept (bel2 (bel2 (bel2 (bel2 (bel2 (bel2 hs5 hs6) hs7) hs8) hs9) hs10) hs11))
    have hM5 := (hO5.kept (bel2 (bel2 (bel2 (bel2 (bel2 hs6 hs7) hs8) hs9) hs10) hs11))
    have hM3 := (hO3.kept (bel2 (bel2 (bel2 (bel2 (bel2 (bel2 (bel2 hs4 hs5) hs6) hs7) hs8) hs9) hs10) hs11))
    have hM6 := (hO6.kept (bel2 (bel2 (bel2 (bel2 hs7 hs8) hs9) hs10) hs11))
    go_wp2_with fail
    refine (markIntS_any _ _ _ l _ _ (by omega) (by omega) (by omega) hM4).mono ?_
    rintro e w12 ⟨rfl, hX12, hsx12, hgx12⟩
    have hb12 := hb11.trans (hsx12.mono hb3.size)
    have hM5x12 := hM5.past_hi hO4 hgx12 (by first | exact Nat.le_refl _ | exact (hs5).size)
    have hM6x12 := hM6.past_hi hO4 hgx12 (by first | exact Nat.le_refl _ | exact (hs5).size)
    have hM3x12 := hO3.past_lo hM3 hX12 hgx12 (by first | exact Nat.le_refl _ | exact (hs4).size)
    go_wp2_with fail
    refine (markIntS_any _ _ _ m _ _ (by omega) (by omega) (by omega) hM5x12).mono ?_
    rintro e w13 ⟨rfl, hX13, hsx13, hgx13⟩
    have hb13 := hb12.trans (hsx13.mono hb4.size)
    have hM6x13 := hM6x12.past_hi hO5 hgx13 (by first | exact Nat.le_refl _ | exact (hs6).size)
    have hM3x13 := hO3.past_lo hM3x12 hX13 hgx13 (by first | exact Nat.le_refl _ | exact (hs4).size)
    have hRG13 := hM6x13.reads.1
    have hRS13 := hM3x13.reads.1
    go_wp2_with fail
    refine (eqIntS_any _ _ _ _ [] [] _ (by omega) (by omega) hRG13 hRS13).mono ?_
    rintro e w14 ⟨rfl, hs14⟩
    have hb14 := hb13.trans (hs14.mono hb13.size)
    have hMG := hM6x13.kept hs14
    have hMS := hM3x13.kept hs14
    go_wp2_with fail
    refine (markIntS_any _ _ _ [] 1 _ (by omega) (by omega) (by omega) hMG).mono ?_
    rintro e w15 ⟨rfl, hX15, hsx15, hgx15⟩
    have hb15 := hb14.trans (hsx15.mono hb5.size)
    have hMS2 := hO3.past_lo hMS hX15 hgx15 (by first | exact Nat.le_refl _ | exact ((bel2 hs4 hs5)).size)
    have hH := hX15.reads.1
    have hRS := hMS2.reads.1
    go_wp2_with fail
    refine (heldIntS_any _ _ _ 1 _ (by omega) (by omega) (by omega) hH).mono ?_
    rintro e w' ⟨rfl, rfl⟩
    go_wp2_with fail
    refine (toIntS_any _ _ l _ (by omega) (hr.kept hb15)).mono ?_
    rintro e w16 ⟨v16, rfl, hO16, hs16⟩
    obtain ⟨a16, c16, rfl, hR16, hl16, hc16⟩ := hO16.shape
    have hb16 := hb15.trans (hs16.mono hb15.size)
    go_wp2_with fail
    refine (toIntS_any _ _ m _ (by omega) (hr2.kept hb16)).mono ?_
    rintro e w17 ⟨v17, rfl, hO17, hs17⟩
    obtain ⟨a17, c17, rfl, hR17, hl17, hc17⟩ := hO17.shape
    have hb17 := hb16.trans (hs17.mono hb16.size)
    go_wp2_with fail
    refine (C2.out _ _ _ _ _ (hR16.kept hs17) hR17).mono ?_
    rintro e w18 ⟨v18, rfl, hO18, hs18⟩
    obtain ⟨a18, c18, rfl, hR18, hl18, hc18⟩ := hO18.shape
    have hb18 := hb17.trans (hs18.mono hb17.size)
    go_wp2_with fail
    refine (eqIntS_any _ _ _ _ [] [] _ (by omega) (by omega) hR18 (hRS.kept (bel2 (bel2 hs16 hs17) hs18))).mono ?_
    rintro e w19 ⟨rfl, hs19⟩
    have hb19 := hb18.trans (hs19.mono hb18.size)
    go_wp2_with fail
    refine (heldIntS_any _ _ _ 1 _ (by omega) (by omega) (by omega) (hH.kept (bel2 (bel2 (bel2 hs16 hs17) hs18) hs19))).mono ?_
    rintro e w' ⟨rfl, rfl⟩
    go_wp2_with fail
    go_ret
    exact ⟨rfl, hb19⟩
  · rw [Bool.and_eq_true] at hv
    obtain ⟨h1, h2⟩ := hv
    cases hv : vecOk (addTo l m 24)
    · have hL : ([] : List Int).length ≤ 24 := by simp
      have C1 := Lib.hid (fun a c b d (w : World) (hr : Reads .i64 w a l) (hs : Reads .i64 w b m) => (specLatticeAdd_ok a b c d l m w hr hs h1 h2).mono (fun e w' h => h.2 hv))
      have C2 := Lib.hid (fun a c b d (w : World) (hr : Reads .i64 w a l) (hs : Reads .i64 w b m) => (implLatticeAdd_ok a b c d l m w hr hs h1 h2).mono (fun e w' h => h.2 hv))
      clear hv h1 h2
      go_enter Try.func4, Try.ntmps4
      go_wp2_with fail
      refine (toIntS_any _ _ l _ (by omega) hr).mono ?_
      rintro e w1 ⟨v1, rfl, hO1, hs1⟩
      obtain ⟨a1, c1, rfl, hR1, hl1, hc1⟩ := hO1.shape
      have hb1 := hb0.trans (hs1.mono hb0.size)
      go_wp2_with fail
      refine (toIntS_any _ _ m _ (by omega) (hr2.kept hb1)).mono ?_
      rintro e w2 ⟨v2, rfl, hO2, hs2⟩
      obtain ⟨a2, c2, rfl, hR2, hl2, hc2⟩ := hO2.shape
      have hb2 := hb1.trans (hs2.mono hb1.size)
      go_wp2_with fail
      refine (C1.out _ _ _ _ _ (hR1.kept hs2) hR2).mono ?_
      rintro e w3 ⟨v3, rfl, hO3, hs3⟩
      obtain ⟨a3, c3, rfl, hR3, hl3, hc3⟩ := hO3.shape
      have hb3 := hb2.trans (hs3.mono hb2.size)
      go_wp2_with fail
      refine (toIntS_any _ _ l _ (by omega) (hr.kept hb3)).mono ?_
      rintro e w4 ⟨v4, rfl, hO4, hs4⟩
      obtain ⟨a4, c4, rfl, hR4, hl4, hc4⟩ := hO4.shape
      have hb4 := hb3.trans (hs4.mono hb3.size)
      go_wp2_with fail
      refine (toIntS_any _ _ m _ (by omega) (hr2.kept hb4)).mono ?_
      rintro e w5 ⟨v5, rfl, hO5, hs5⟩
      obtain ⟨a5, c5, rfl, hR5, hl5, hc5⟩ := hO5.shape
      have hb5 := hb4.trans (hs5.mono hb4.size)
      go_wp2_with fail
      refine (C2.out _ _ _ _ _ (hR4.kept hs5) hR5).mono ?_
      rintro e w6 ⟨v6, rfl, hO6, hs6⟩
      obtain ⟨a6, c6, rfl, hR6, hl6, hc6⟩ := hO6.shape
      have hb6 := hb5.trans (hs6.mono hb5.size)
      go_wp2_with fail
      refine (eqIntS_any _ _ _ _ [] [] _ (by omega) (by omega) hR6 (hR3.kept (bel2 (bel2 hs4 hs5) hs6))).mono ?_
      rintro e w7 ⟨rfl, hs7⟩
      have hb7 := hb6.trans (hs7.mono hb6.size)
      go_wp2_with fail
      refine (toIntS_any _ _ l _ (by omega) (hr.kept hb7)).mono ?_
      rintro e w8 ⟨v8, rfl, hO8, hs8⟩
      obtain ⟨a8, c8, rfl, hR8, hl8, hc8⟩ := hO8.shape
      have hb8 := hb7.trans (hs8.mono hb7.size)
      go_wp2_with fail
      refine (eqIntS_any _ _ _ _ l l _ (by omega) (by omega) (hR4.kept (bel2 (bel2 (bel2 hs5 hs6) hs7) hs8)) hR8).mono ?_
      rintro e w9 ⟨rfl, hs9⟩
      have hb9 := hb8.trans (hs9.mono hb8.size)
      go_wp2_with fail
      refine (toIntS_any _ _ m _ (by omega) (hr2.kept hb9)).mono ?_
      rintro e w10 ⟨v10, rfl, hO10, hs10⟩
      obtain ⟨a10, c10, rfl, hR10, hl10, hc10⟩ := hO10.shape
      have hb10 := hb9.trans (hs10.mono hb9.size)
      go_wp2_with fail
      refine (eqIntS_any _ _ _ _ m m _ (by omega) (by omega) (hR5.kept (bel2 (bel2 (bel2 (bel2 hs6 hs7) hs8) hs9) hs10)) hR10).mono ?_
      rintro e w11 ⟨rfl, hs11⟩
      have hb11 := hb10.trans (hs11.mono hb10.size)
      have hM4 := (hO4.kept (bel2 (bel2 (bel2 (bel2 (bel2 (bel2 hs5 hs6) hs7) hs8) hs9) hs10) hs11))
      have hM5 := (hO5.kept (bel2 (bel2 (bel2 (bel2 (bel2 hs6 hs7) hs8) hs9) hs10) hs11))
      have hM3 := (hO3.kept (bel2 (bel2 (bel2 (bel2 (bel2 (bel2 (bel2 hs4 hs5) hs6) hs7) hs8) hs9) hs10) hs11))
      have hM6 := (hO6.kept (bel2 (bel2 (bel2 (bel2 hs7 hs8) hs9) hs10) hs11))
      go_wp2_with fail
      refine (markIntS_any _ _ _ l _ _ (by omega) (by omega) (by omega) hM4).mono ?_
      rintro e w12 ⟨rfl, hX12, hsx12, hgx12⟩
      have hb12 := hb11.trans (hsx12.mono hb3.size)
      have hM5x12 := hM5.past_hi hO4 hgx12 (by first | exact Nat.le_refl _ | exact (hs5).size)
      have hM6x12 := hM6.past_hi hO4 hgx12 (by first | exact Nat.le_refl _ | exact (hs5).size)
      have hM3x12 := hO3.past_lo hM3 hX12 hgx12 (by first | exact Nat.le_refl _ | exact (hs4).size)
      go_wp2_with fail
      refine (markIntS_any _ _ _ m _ _ (by omega) (by omega) (by omega) hM5x12).mono ?_
      rintro e w13 ⟨rfl, hX13, hsx13, hgx13⟩
      have hb13 := hb12.trans (hsx13.mono hb4.size)
      have hM6x13 := hM6x12.past_hi hO5 hgx13 (by first | exact Nat.le_refl _ | exact (hs6).size)
      have hM3x13 := hO3.past_lo hM3x12 hX13 hgx13 (by first | exact Nat.le_refl _ | exact (hs4).size)
      have hRG13 := hM6x13.reads.1
      have hRS13 := hM3x13.reads.1
      go_wp2_with fail
      refine (eqIntS_any _ _ _ _ [] [] _ (by omega) (by omega) hRG13 hRS13).mono ?_
      rintro e w14 ⟨rfl, hs14⟩
      have hb14 := hb13.trans (hs14.mono hb13.size)
      have hMG := hM6x13.kept hs14
      have hMS := hM3x13.kept hs14
      go_wp2_with fail
      refine (markIntS_any _ _ _ [] 1 _ (by omega) (by omega) (by omega) hMG).mono ?_
      rintro e w15 ⟨rfl, hX15, hsx15, hgx15⟩
      have hb15 := hb14.trans (hsx15.mono hb5.size)
      have hMS2 := hO3.past_lo hMS hX15 hgx15 (by first | exact Nat.le_refl _ | exact ((bel2 hs4 hs5)).size)
      have hH := hX15.reads.1
      have hRS := hMS2.reads.1
      go_wp2_with fail
      refine (heldIntS_any _ _ _ 1 _ (by omega) (by omega) (by omega) hH).mono ?_
      rintro e w' ⟨rfl, rfl⟩
      go_wp2_with fail
      refine (toIntS_any _ _ l _ (by omega) (hr.kept hb15)).mono ?_
      rintro e w16 ⟨v16, rfl, hO16, hs16⟩
      obtain ⟨a16, c16, rfl, hR16, hl16, hc16⟩ := hO16.shape
      have hb16 := hb15.trans (hs16.mono hb15.size)
      go_wp2_with fail
      refine (toIntS_any _ _ m _ (by omega) (hr2.kept hb16)).mono ?_
      rintro e w17 ⟨v17, rfl, hO17, hs17⟩
      obtain ⟨a17, c17, rfl, hR17, hl17, hc17⟩ := hO17.shape
      have hb17 := hb16.trans (hs17.mono hb16.size)
      go_wp2_with fail
      refine (C2.out _ _ _ _ _ (hR16.kept hs17) hR17).mono ?_
      rintro e w18 ⟨v18, rfl, hO18, hs18⟩
      obtain ⟨a18, c18, rfl, hR18, hl18, hc18⟩ := hO18.shape
      have hb18 := hb17.trans (hs18.mono hb17.size)
      go_wp2_with fail
      refine (eqIntS_any _ _ _ _ [] [] _ (by omega) (by omega) hR18 (hRS.kept (bel2 (bel2 hs16 hs17) hs18))).mono ?_
      rintro e w19 ⟨rfl, hs19⟩
      have hb19 := hb18.trans (hs19.mono hb18.size)
      go_wp2_with fail
      refine (heldIntS_any _ _ _ 1 _ (by omega) (by omega) (by omega) (hH.kept (bel2 (bel2 (bel2 hs16 hs17) hs18) hs19))).mono ?_
      rintro e w' ⟨rfl, rfl⟩
      go_wp2_with fail
      go_ret
      exact ⟨rfl, hb19⟩
    · have hL : (addTo l m 24).length ≤ 24 := by rw [addTo_length]; omega
      have C1 := Lib.hid (fun a c b d (w : World) (hr : Reads .i64 w a l) (hs : Reads .i64 w b m) => (specLatticeAdd_ok a b c d l m w hr hs h1 h2).mono (fun e w' h => h.1 hv))
      have C2 := Lib.hid (fun a c b d (w : World) (hr : Reads .i64 w a l) (hs : Reads .i64 w b m) => (implLatticeAdd_ok a b c d l m w hr hs h1 h2).mono (fun e w' h => h.1 hv))
      clear hv h1 h2
      generalize addTo l m 24 = L at *
      go_enter Try.func4, Try.ntmps4
      go_wp2_with fail
      refine (toIntS_any _ _ l _ (by omega) hr).mono ?_
      rintro e w1 ⟨v1, rfl, hO1, hs1⟩
      obtain ⟨a1, c1, rfl, hR1, hl1, hc1⟩ := hO1.shape
      have hb1 := hb0.trans (hs1.mono hb0.size)
      go_wp2_with fail
      refine (toIntS_any _ _ m _ (by omega) (hr2.kept hb1)).mono ?_
      rintro e w2 ⟨v2, rfl, hO2, hs2⟩
      obtain ⟨a2, c2, rfl, hR2, hl2, hc2⟩ := hO2.shape
      have hb2 := hb1.trans (hs2.mono hb1.size)
      go_wp2_with fail
      refine (C1.out _ _ _ _ _ (hR1.kept hs2) hR2).mono ?_
      rintro e w3 ⟨v3, rfl, hO3, hs3⟩
      obtain ⟨a3, c3, rfl, hR3, hl3, hc3⟩ := hO3.shape
      have hb3 := hb2.trans (hs3.mono hb2.size)
      go_wp2_with fail
      refine (toIntS_any _ _ l _ (by omega) (hr.kept hb3)).mono ?_
      rintro e w4 ⟨v4, rfl, hO4, hs4⟩
      obtain ⟨a4, c4, rfl, hR4, hl4, hc4⟩ := hO4.shape
      have hb4 := hb3.trans (hs4.mono hb3.size)
      go_wp2_with fail
      refine (toIntS_any _ _ m _ (by omega) (hr2.kept hb4)).mono ?_
      rintro e w5 ⟨v5, rfl, hO5, hs5⟩
      obtain ⟨a5, c5, rfl, hR5, hl5, hc5⟩ := hO5.shape
      have hb5 := hb4.trans (hs5.mono hb4.size)
      go_wp2_with fail
      refine (C2.out _ _ _ _ _ (hR4.kept hs5) hR5).mono ?_
      rintro e w6 ⟨v6, rfl, hO6, hs6⟩
      obtain ⟨a6, c6, rfl, hR6, hl6, hc6⟩ := hO6.shape
      have hb6 := hb5.trans (hs6.mono hb5.size)
      go_wp2_with fail
      refine (eqIntS_any _ _ _ _ L L _ (by omega) (by omega) hR6 (hR3.kept (bel2 (bel2 hs4 hs5) hs6))).mono ?_
      rintro e w7 ⟨rfl, hs7⟩
      have hb7 := hb6.trans (hs7.mono hb6.size)
      go_wp2_with fail
      refine (toIntS_any _ _ l _ (by omega) (hr.kept hb7)).mono ?_
      rintro e w8 ⟨v8, rfl, hO8, hs8⟩
      obtain ⟨a8, c8, rfl, hR8, hl8, hc8⟩ := hO8.shape
      have hb8 := hb7.trans (hs8.mono hb7.size)
      go_wp2_with fail
      refine (eqIntS_any _ _ _ _ l l _ (by omega) (by omega) (hR4.kept (bel2 (bel2 (bel2 hs5 hs6) hs7) hs8)) hR8).mono ?_
      rintro e w9 ⟨rfl, hs9⟩
      have hb9 := hb8.trans (hs9.mono hb8.size)
      go_wp2_with fail
      refine (toIntS_any _ _ m _ (by omega) (hr2.kept hb9)).mono ?_
      rintro e w10 ⟨v10, rfl, hO10, hs10⟩
      obtain ⟨a10, c10, rfl, hR10, hl10, hc10⟩ := hO10.shape
      have hb10 := hb9.trans (hs10.mono hb9.size)
      go_wp2_with fail
      refine (eqIntS_any _ _ _ _ m m _ (by omega) (by omega) (hR5.kept (bel2 (bel2 (bel2 (bel2 hs6 hs7) hs8) hs9) hs10)) hR10).mono ?_
      rintro e w11 ⟨rfl, hs11⟩
      have hb11 := hb10.trans (hs11.mono hb10.size)
      have hM4 := (hO4.kept (bel2 (bel2 (bel2 (bel2 (bel2 (bel2 hs5 hs6) hs7) hs8) hs9) hs10) hs11))
      have hM5 := (hO5.kept (bel2 (bel2 (bel2 (bel2 (bel2 hs6 hs7) hs8) hs9) hs10) hs11))
      have hM3 := (hO3.kept (bel2 (bel2 (bel2 (bel2 (bel2 (bel2 (bel2 hs4 hs5) hs6) hs7) hs8) hs9) hs10) hs11))
      have hM6 := (hO6.kept (bel2 (bel2 (bel2 (bel2 hs7 hs8) hs9) hs10) hs11))
      go_wp2_with fail
      refine (markIntS_any _ _ _ l _ _ (by omega) (by omega) (by omega) hM4).mono ?_
      rintro e w12 ⟨rfl, hX12, hsx12, hgx12⟩
      have hb12 := hb11.trans (hsx12.mono hb3.size)
      have hM5x12 := hM5.past_hi hO4 hgx12 (by first | exact Nat.le_refl _ | exact (hs5).size)
      have hM6x12 := hM6.past_hi hO4 hgx12 (by first | exact Nat.le_refl _ | exact (hs5).size)
      have hM3x12 := hO3.past_lo hM3 hX12 hgx12 (by first | exact Nat.le_refl _ | exact (hs4).size)
      go_wp2_with fail
      refine (markIntS_any _ _ _ m _ _ (by omega) (by omega) (by omega) hM5x12).mono ?_
      rintro e w13 ⟨rfl, hX13, hsx13, hgx13⟩
      have hb13 := hb12.trans (hsx13.mono hb4.size)
      have hM6x13 := hM6x12.past_hi hO5 hgx13 (by first | exact Nat.le_refl _ | exact (hs6).size)
      have hM3x13 := hO3.past_lo hM3x12 hX13 hgx13 (by first | exact Nat.le_refl _ | exact (hs4).size)
      have hRG13 := hM6x13.reads.1
      have hRS13 := hM3x13.reads.1
      go_wp2_with fail
      refine (eqIntS_any _ _ _ _ L L _ (by omega) (by omega) hRG13 hRS13).mono ?_
      rintro e w14 ⟨rfl, hs14⟩
      have hb14 := hb13.trans (hs14.mono hb13.size)
      have hMG := hM6x13.kept hs14
      have hMS := hM3x13.kept hs14
      go_wp2_with fail
      refine (markIntS_any _ _ _ L 1 _ (by omega) (by omega) (by omega) hMG).mono ?_
      rintro e w15 ⟨rfl, hX15, hsx15, hgx15⟩
      have hb15 := hb14.trans (hsx15.mono hb5.size)
      have hMS2 := hO3.past_lo hMS hX15 hgx15 (by first | exact Nat.le_refl _ | exact ((bel2 hs4 hs5)).size)
      have hH := hX15.reads.1
      have hRS := hMS2.reads.1
      go_wp2_with fail
      refine (heldIntS_any _ _ _ 1 _ (by omega) (by omega) (by omega) hH).mono ?_
      rintro e w' ⟨rfl, rfl⟩
      go_wp2_with fail
      refine (toIntS_any _ _ l _ (by omega) (hr.kept hb15)).mono ?_
      rintro e w16 ⟨v16, rfl, hO16, hs16⟩
      obtain ⟨a16, c16, rfl, hR16, hl16, hc16⟩ := hO16.shape
      have hb16 := hb15.trans (hs16.mono hb15.size)
      go_wp2_with fail
      refine (toIntS_any _ _ m _ (by omega) (hr2.kept hb16)).mono ?_
      rintro e w17 ⟨v17, rfl, hO17, hs17⟩
      obtain ⟨a17, c17, rfl, hR17, hl17, hc17⟩ := hO17.shape
      have hb17 := hb16.trans (hs17.mono hb16.size)
      go_wp2_with fail
      refine (C2.out _ _ _ _ _ (hR16.kept hs17) hR17).mono ?_
      rintro e w18 ⟨v18, rfl, hO18, hs18⟩
      obtain ⟨a18, c18, rfl, hR18, hl18, hc18⟩ := hO18.shape
      have hb18 := hb17.trans (hs18.mono hb17.size)
      go_wp2_with fail
      refine (eqIntS_any _ _ _ _ L L _ (by omega) (by omega) hR18 (hRS.kept (bel2 (bel2 hs16 hs17) hs18))).mono ?_
      rintro e w19 ⟨rfl, hs19⟩
      have hb19 := hb18.trans (hs19.mono hb18.size)
      go_wp2_with fail
      refine (heldIntS_any _ _ _ 1 _ (by omega) (by omega) (by omega) (hH.kept (bel2 (bel2 (bel2 hs16 hs17) hs18) hs19))).mono ?_
      rintro e w' ⟨rfl, rfl⟩
      go_wp2_with fail
      go_ret
      exact ⟨rfl, hb19⟩

set_option maxRecDepth 100000 in
theorem lifted (os : Os) (started : os.Started) (H : Type) (enc : TypeId × Value → H) :
    ReturnsInHanded {} Try.checked os 4 .any (Rows.fnExactLatticeAddSpec.pre6 enc Try.prog Try.f4 Rows.fnExactLatticeAddRow.domain false) (Rows.fnExactLatticeAddSpec.post enc Try.prog Try.f4 false true false false) := by
  refine returnsInHanded_of_change (C := Try.checked) own started (by kernel_rfl) Try.func4
    (ChangeSpec.witness6 (enc := enc) (C := Try.checked) false ⟨#[], #[.slice none 0 0, .slice none 0 0], []⟩ 8 (by kernel_rfl) (by kernel_rfl) (by kernel_rfl) (by kernel_rfl)) ?_
  intro W base args ds gs before hval0 hW hcnd _
  have hval : ∀ (j : Nat) t v, Try.f4.params[j]? = some t → args[j]? = some v → Value.okWide Try.prog W .any base t v := hval0
  have hW' := hW
  obtain ⟨p, q, hA0, hV, rfl, hfz, hnd⟩ := hW
  have hA : DataW.TrodAll enc Try.prog W 0 (fun _ => true) true Try.f4.params.toList args.toList ds p := hA0
  rw [Try.params4] at hA hval
  obtain ⟨v0, vs0, d0, ds0, p0, q0, hargs, rfl, rfl, h0, r0⟩ := trodAll_cons hA
  obtain ⟨v1, vs1, d1, ds1, p1, q1, rfl, rfl, rfl, h1, r1⟩ := trodAll_cons r0
  obtain ⟨rfl, rfl, rfl⟩ := trodAll_nil r1
  obtain rfl : args = #[v0, v1] := by cases args; simp_all
  obtain ⟨rfl, rfl⟩ := trodVars_none hV
  obtain ⟨a0, len0, cap0, rfl⟩ := okWide_slice Try.underlying25 (hval 0 25 v0 rfl rfl)
  have k0 := h0
  have lt0 : ∀ x ∈ p0, x.block < W.heap.size := by obtain ⟨m, hm⟩ := k0; exact DataW.trod_lt m _ _ _ hm
  obtain ⟨z0, w0⟩ : ∃ zs, IsRow .i64 W a0 len0 cap0 zs := by
    obtain ⟨fuel, hf⟩ := h0
    rcases open_ints Try.underlying25 Try.underlying3 (by kernel_rfl) hf with ⟨hcs, _⟩ | ⟨x, l, c, zs, hcs, _, hl, hm, hz, _, hcell, hwz⟩
    · simp [Value.cells] at hcs
      obtain ⟨rfl, rfl, rfl⟩ := hcs
      exact ⟨[], .inl ⟨rfl, rfl, rfl, rfl⟩⟩
    · simp [Value.cells] at hcs
      obtain ⟨rfl, rfl, rfl⟩ := hcs
      exact ⟨zs, .inr ⟨_, rfl, hl, hm, by simpa using hz, hcell, hwz⟩⟩
  obtain ⟨a1, len1, cap1, rfl⟩ := okWide_slice Try.underlying25 (hval 1 25 v1 rfl rfl)
  have k1 := h1
  have lt1 : ∀ x ∈ p1, x.block < W.heap.size := by obtain ⟨m, hm⟩ := k1; exact DataW.trod_lt m _ _ _ hm
  obtain ⟨z1, w1⟩ : ∃ zs, IsRow .i64 W a1 len1 cap1 zs := by
    obtain ⟨fuel, hf⟩ := h1
    rcases open_ints Try.underlying25 Try.underlying3 (by kernel_rfl) hf with ⟨hcs, _⟩ | ⟨x, l, c, zs, hcs, _, hl, hm, hz, _, hcell, hwz⟩
    · simp [Value.cells] at hcs
      obtain ⟨rfl, rfl, rfl⟩ := hcs
      exact ⟨[], .inl ⟨rfl, rfl, rfl, rfl⟩⟩
    · simp [Value.cells] at hcs
      obtain ⟨rfl, rfl, rfl⟩ := hcs
      exact ⟨zs, .inr ⟨_, rfl, hl, hm, by simpa using hz, hcell, hwz⟩⟩
  clear hA0 hval0
  refine (walk a0 len0 cap0 z0 a1 len1 cap1 z1 W w0 w1).mono fun e W' ⟨he, bel⟩ => ?_
  subst he
  exact ⟨_, rfl, _, _, _, [], _, [], hW', trodAll_mk1 (shut_bool Try.underlying4 _), (trodAll_cons_mk (Below.trod laidOut (by kernel_rfl) (of_decide_eq_true (by kernel_rfl)) k0 bel lt0) (trodAll_cons_mk (Below.trod laidOut (by kernel_rfl) (of_decide_eq_true (by kernel_rfl)) k1 bel lt1) trodAll_mk0)), rfl, bel.frame _, fun h => by cases h⟩

theorem closed : joinedFacts Try.checked.prog 4 Try.f4 Rows.fnExactLatticeAddSpec Rows.fnExactLatticeAddRow = true := by
  unfold joinedFacts
  rw [may, made, lifts]
  kernel_rfl

theorem over : Rows.fnExactLatticeAddRow.holds Try.pinned (OpenSpec.ofChange Rows.fnExactLatticeAddSpec) :=
  OpenClaim.holds_of_wide 4 Try.f4 rfl rfl rfl rfl rfl rfl rfl ⟨rfl, rfl, rfl, rfl, rfl⟩ rfl rfl rfl rfl rfl (by kernel_rfl) Try.func4 closed
    (of_decide_eq_true (by kernel_rfl)) (by unfold Func.isWrapper; first | (rw [if_pos (by decide +kernel)]; kernel_rfl) | (rw [if_neg (by decide +kernel)]; exact ⟨rfl, rfl⟩))
    (fun os started H enc _ => lifted os started H enc)

/-- The given statement. -/
theorem proved : Rows.FnExactLatticeAddSaid := over
#print axioms proved

end Go.Proofs.Ythbgmmjgenkjpaa.fnExactLatticeAdd
