/- Contracts of LatticeOctad. -/
import Derived.Test.YteedbejlbjfkgaaGreatWOct
import Derived.Test.YteedbejlbjfkgaaGreatMk
import Derived.Test.YteedbejlbjfkgaaGreatPl
import Derived.Test.YteedbejlbjfkgaaGreatWMark
import Derived.StillTailTactics
set_option linter.unusedVariables false
namespace Go.Proofs.YteedbejlbjfkgaaGreat
open Go.RowKit Res

/-- The signs with the eighth one. -/
def sgn (s : Nat) : Nat := s + wt s % 2 * 128
/-- Twos with signs at the first k places of a word. -/
def ocTo (n m : Nat) : Nat → List Int
  | 0 => List.replicate 24 0
  | k + 1 => (ocTo n m k).set ((places n).getD k 0) (2 - 4 * ((bitN m k : Nat) : Int))
def octV (n s : Nat) : List Int := ocTo n (sgn s) 8
theorem ocTo_length (n m k : Nat) : (ocTo n m k).length = 24 := by
  induction k with
  | zero => simp [ocTo]
  | succ k ih => simp [ocTo, ih]
theorem sgn_or {s : Nat} (h : s < 128) : s ||| (wt s % 2) * 2 ^ 7 = sgn s := by
  have h2 : wt s % 2 < 2 := Nat.mod_lt _ (by omega)
  unfold sgn
  generalize wt s % 2 = t at *
  match t, h2 with
  | 0, _ => simp
  | 1, _ =>
    have hb : s.testBit 7 = false := Nat.testBit_lt_two_pow h
    rw [Nat.one_mul, ← add_bit hb]
theorem sgn_lt {s : Nat} (h : s < 128) : sgn s < 256 := by unfold sgn; omega
def octOk (n s : Int) : Bool := octB n && inB s 0 127

theorem specLatticeOctad_no (n s : Int) (w : World) (h : octOk n s = false) :
    Calls Tryz.prog 25 #[.int .i64 n, .int .i64 s] w fun e w' => ∃ v, e = .returned (.tuple #[v, .bool false]) ∧ Owns w.heap.size w' v [] ∧ Below w.heap.size w w' := by
  unfold octOk at h
  have hb0 := Below.refl w.heap.size w
  go_enter Tryz.func25, Tryz.ntmps25
  go_wp2_with fail
  refine (specOctadIn_any _ _).mono ?_
  rintro e w1 ⟨rfl, hs1⟩
  have hb1 := hb0.trans (hs1.mono hb0.size)
  have hsz := hb1.size
  cases h2 : octB n
  · go_wp2_with fail
    go_ret2
    exact ⟨_, rfl, Owns.empty w1 (by omega), hb1.alloc (by omega) _⟩
  · rw [h2, Bool.true_and] at h
    go_wp2_with fail
    refine (l6In_any _ _ _ _).mono ?_
    rintro e w' ⟨rfl, rfl⟩
    go_wp2_with fail
    go_ret2
    exact ⟨_, rfl, Owns.empty w1 (by omega), hb1.alloc (by omega) _⟩

theorem octB_facts {n : Int} (h : octB n = true) : (0 ≤ n ∧ n ≤ 16777215) ∧ wt n.toNat = 8 := by
  unfold octB at h
  rw [Bool.and_eq_true, Bool.and_eq_true, beq_iff_eq] at h
  exact ⟨inB_iff.1 h.1.1, h.2⟩

set_option maxRecDepth 100000 in
theorem specLatticeOctad_ok (n s : Int) (w : World) (h : octOk n s = true) :
    Calls Tryz.prog 25 #[.int .i64 n, .int .i64 s] w fun e w' => ∃ v, e = .returned (.tuple #[v, .bool true]) ∧ Owns w.heap.size w' v (octV n.toNat s.toNat) ∧ Below w.heap.size w w' := by
  unfold octOk at h
  rw [Bool.and_eq_true] at h
  obtain ⟨h1, h3⟩ := h
  obtain ⟨⟨n0, n1⟩, hw8⟩ := octB_facts h1
  obtain ⟨s0, s1⟩ := inB_iff.1 h3
  obtain ⟨n, rfl⟩ := Int.eq_ofNat_of_zero_le n0
  obtain ⟨s, rfl⟩ := Int.eq_ofNat_of_zero_le s0
  rw [Int.toNat_natCast] at hw8 ⊢
  rw [Int.toNat_natCast]
  have hb0 := Below.refl w.heap.size w
  have hwl := wt_le s
  go_enter Tryz.func25, Tryz.ntmps25
  go_wp2_with fail
  refine (specOctadIn_any _ _).mono ?_
  rintro e w1 ⟨rfl, hs1⟩
  have hb1 := hb0.trans (hs1.mono hb0.size)
  rw [h1]
  have hsz := hb1.size
  go_wp2_with fail
  refine (l6In_any _ _ _ _).mono ?_
  rintro e w' ⟨rfl, rfl⟩
  have hor : (s : Int) + ((wt s : Nat) : Int) % 2 * 128 = ((sgn s : Nat) : Int) := by unfold sgn; omega
  have hsl := sgn_lt (s := s) (by omega)
  have hov : octV n s = ocTo n (sgn s) 8 := rfl
  have HOV := Lib.hid hov
  clear hov
  have HP := Lib.hid (fun w => l1Places_any (n : Int) w (by omega) (by omega))
  have hpn := places_length n
  rw [hw8] at hpn
  have HG := Lib.hid (fun k (hk : k < (places n).length) => (places_get (w := n) hk).1)
  have HT : Hid (∀ m k, ocTo n m (k + 1) = (ocTo n m k).set ((places n).getD k 0) (2 - 4 * ((bitN m k : Nat) : Int))) := Lib.hid (fun _ _ => rfl)
  simp only [Int.toNat_natCast] at HP
  generalize places n = ps at *
  go_wp2_with (first | (at_make; refine wpList_mk rfl _ _ rfl w1.heap.size 24 rfl rfl rfl rfl (by omega) (by omega) ?_; intro w2 hO2 hs2 hz2) | fail)
  refine (HP.out _).mono ?_
  rintro e w3 ⟨v3, rfl, hO3, hs3⟩
  obtain ⟨a3, c3, rfl, hR3, hl3, hc3⟩ := hO3.shapeN
  rw [hpn]
  have HPN := Lib.hid hpn
  go_wp2_with fail
  refine (l1Weight_any _ _ (by omega) (by omega)).mono ?_
  rintro e w' ⟨rfl, rfl⟩
  rw [Int.toNat_natCast]
  go_wp2_with fail
  generalize sgn s = m at *
  have hO2' := hO2.kept hs3
  have hb3 := hs2.trans (hs3.mono hs2.size)
  clear hor hpn
  go_loopw [9] (fun x wr => ∃ k : Nat, k ≤ 8 ∧ x = .int .i64 (k : Int) ∧ Owns w1.heap.size wr (.slice (some ⟨w1.heap.size, 0, none⟩) 24 24) (ocTo n m k) ∧ w3.grownBy wr (some w1.heap.size) ∧ Below w1.heap.size w1 wr)
    (fun x _ => (8 - (intOf x).toNat))
  case atStart => exact ⟨0, by omega, rfl, hO2', World.grownBy.mk rfl rfl rfl (Nat.le_refl _) (fun _ _ _ => rfl), hb3⟩
  case round =>
    obtain ⟨k, hk, rfl, hO, hgr, hbel⟩ := hrel
    have hlen := ocTo_length n m k
    by_cases hlt : k < 8
    · have hlp : k < ps.length := by rw [HPN.out]; exact hlt
      obtain ⟨b, off, ha, hb, hc⟩ := hR3 k hlp
      subst ha
      have hbg := (hO3.lt b rfl).1
      have hcw : wr.cell? ⟨b, off + k, none⟩ = some (.int .i64 ((ps.getD k 0 : Nat) : Int)) := by
        rw [World.cell?_of_block (w := w3) (hgr.block b hb (by simp; omega))]
        exact hc
      have hp := HG.out k hlp
      rw [show ps[k] = ps.getD k 0 by simp [List.getD, hlp]] at hp
      have hst := Lib.hid (HT.out m k)
      have hki : (k : Int) < 8 := by omega
      have hbi := bit_int m k (by omega)
      have hbl := bitN_le m k
      clear hc hlp
      generalize ps.getD k 0 = p at *
      obtain ⟨hcp, hfp⟩ := hO.at p (by omega)
      have hpi : (p : Int) < 24 := by omega
      have hO' := hO.store p (2 - 4 * ((bitN m k : Nat) : Int))
      rw [← hst.out] at hO'
      have HO := Lib.hid hO'
      have hOk := Lib.hid hO
      clear hO' hO hlen
      have hOd : Owns w1.heap.size wr.drew (.slice (some ⟨w1.heap.size, 0, none⟩) 24 24) (ocTo n m k) := hOk.out
      have hcd : wr.drew.cell? ⟨w1.heap.size, p, none⟩ = some (.int .i64 ((ocTo n m k).getD p 0)) := hcp
      have hfd : wr.drew.frozen? ⟨w1.heap.size, p, none⟩ = false := hfp
      have HO2 := Lib.hid (hst.out ▸ hOd.store p (2 - 4 * ((bitN m k : Nat) : Int)))
      clear hOd
      go_wp2_with fail
      go_still_tail 11, (by kernel_rfl)
      still_call ((l1Bit_any (m : Int) (k : Int) _ (by omega) (by omega) (by omega) (by omega)).mono (by rintro e w' ⟨rfl, rfl⟩; exact ⟨rfl, rfl⟩))
      repeat still_step
      refine wpStill_nil ?_
      change wpList _ _ _ _ _ wr.drew
      go_wp2
      go_roundw
      case rel => exact ⟨k + 1, by omega, by go_num, HO2.out.1, grown_next hgr (grown_next HO.out.2 (World.grownBy.mk rfl rfl rfl (Nat.le_refl _) (fun _ _ _ => rfl))), hbel.drew.setCell (p := ⟨w1.heap.size, p, none⟩) (Nat.le_refl _) _⟩
      case measure => simp [intOf]; omega
    · go_wp2
      go_ret2
      obtain rfl : k = 8 := by omega
      exact ⟨_, rfl, by rw [HOV.out]; exact hO.mono hsz, hb1.trans (hbel.mono hsz)⟩

end Go.Proofs.YteedbejlbjfkgaaGreat
