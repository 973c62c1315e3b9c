/- Contracts of the exact laws' own helpers: toIntS copies, eqIntS compares. -/
import Derived.Test.YtldjlabllhnpjaaRd
import Derived.BigQuiet
import Derived.Deep.QuietTactic
set_option linter.unusedVariables false
namespace Go.Proofs.Ytldjlabllhnpjaa
open Go.RowKit

/-- The first k of a list, then noughts. -/
def fillTo (l : List Int) (k : Nat) : List Int := l.take k ++ List.replicate (l.length - k) 0
theorem fillTo_length (l : List Int) (k : Nat) (hk : k ≤ l.length) : (fillTo l k).length = l.length := by simp [fillTo]; omega
theorem fillTo_zero (l : List Int) : fillTo l 0 = List.replicate l.length 0 := by simp [fillTo]
theorem fillTo_all (l : List Int) : fillTo l l.length = l := by simp [fillTo]
theorem fillTo_succ (l : List Int) (k : Nat) (hk : k < l.length) : (fillTo l k).set k (l.getD k 0) = fillTo l (k + 1) := by
  unfold fillTo
  rw [List.set_append_right _ _ (by rw [List.length_take]; omega), List.length_take, Nat.min_eq_left (by omega), Nat.sub_self,
    show l.length - k = (l.length - (k + 1)) + 1 by omega, List.replicate_succ, List.set_cons_zero, List.take_succ_eq_append_getElem hk]
  simp only [List.getD, List.getElem?_eq_getElem hk, Option.getD_some, List.append_assoc, List.singleton_append]

theorem Owns.of_row {B g cap : Nat} {w : World} {l : List Int} (h : w.ownsRow B 3 1 (.slice (some ⟨g, 0, none⟩) l.length cap) l.length (l.map (Value.int .i64))) :
    Owns B w (.slice (some ⟨g, 0, none⟩) l.length cap) l := h

theorem toIntS_any (a : Option Addr) (cap : Nat) (l : List Int) (w : World) (hl : l.length * 8 ≤ 140737488351232) (hr : Reads .i64 w a l) :
    Calls Try.prog 20 #[.slice a l.length cap] w fun e w' => ∃ v, e = .returned v ∧ Owns w.heap.size w' v l ∧ Below w.heap.size w w' := by
  obtain ⟨i0, hi, hz0, hz1, hz2⟩ := info_parts infoInt
  go_enter Try.func20, Try.ntmps20
  go_wp2_with (first | (at_make; refine wpList_make_full _ rfl _ _ 22 rfl w.heap.size 3 i0 (.int .i64 0) 1 Try.underlying22 hi hz0 hz1 _ _ _ _ l.length rfl rfl rfl rfl (by rw [hz2]; omega) (by unfold maxLen; omega) (Nat.le_refl _) ?_; intro w1 hown hgrow))
  go_loopw [4] (fun x wr => ∃ k : Nat, k ≤ l.length ∧ x = .int .i64 (k : Int) ∧
      wr.ownsRow w.heap.size 3 1 (.slice (some ⟨w.heap.size, 0, none⟩) l.length l.length) l.length ((fillTo l k).map (Value.int .i64)) ∧ Below w.heap.size w wr)
    (fun x _ => (l.length - (intOf x).toNat))
  case atStart =>
    refine ⟨0, by omega, rfl, ?_, (Below.refl _ _).grown hgrow (Nat.le_refl _) (by simp)⟩
    rw [fillTo_zero]
    simpa [toList_madeCells_one, Value.cells] using hown
  case round =>
    obtain ⟨k, hk, rfl, hown, hbel⟩ := hrel
    by_cases hlt : k < l.length
    · obtain ⟨b, off, ha, hb, hc⟩ := hr k hlt
      subst ha
      have hc' : wr.cell? ⟨b, off + k, none⟩ = some (.int .i64 (l.getD k 0)) := by rw [hbel.cell (p := ⟨b, off + k, none⟩) hb]; exact hc
      have hcell := hown.cellAt k (by omega)
      rw [show (List.map (Value.int .i64) (fillTo l k))[k]? = some (.int .i64 ((fillTo l k).getD k 0)) by simp [List.getD, fillTo_length l k hk, hlt]] at hcell
      have hfr := hown.frozenAt k
      have hst := hown.stored k (.int .i64 (l.getD k 0))
      have H := Lib.hid hst
      clear hst hc
      go_wp2
      go_roundw
      case rel =>
        refine ⟨k + 1, by omega, by go_num, ?_, hbel.setCell (p := ⟨w.heap.size, k, none⟩) (Nat.le_refl _) _⟩
        have h1 := H.out.1
        rw [← List.map_set, fillTo_succ l k hlt] at h1
        simpa [List.getD, hlt] using h1
      case measure => simp [intOf]; omega
    · go_wp2
      go_ret
      obtain rfl : k = l.length := by omega
      rw [fillTo_all] at hown
      exact ⟨_, rfl, hown, hbel⟩

/-- Are two lists equal? -/
theorem eqIntS_any (a b : Option Addr) (ca cb : Nat) (l m : List Int) (w : World) (hl : l.length ≤ 9223372036854775807) (hm : m.length ≤ 9223372036854775807)
    (hr : Reads .i64 w a l) (hs : Reads .i64 w b m) :
    Calls Try.prog 22 #[.slice a l.length ca, .slice b m.length cb] w fun e w' => e = .returned (.bool (decide (l = m))) ∧ Below w.heap.size w w' := by
  by_cases hlen : l.length = m.length
  · have Hn := Lib.hid hlen
    have hn : ((l.length : Int) != (m.length : Int)) = false := by simp [hlen]
    have hle : m.length ≤ l.length := by omega
    have hle2 : l.length ≤ m.length := by omega
    clear hlen
    go_enter Try.func22, Try.ntmps22
    go_wp2
    go_loopw [5] (fun x wr => ∃ k : Nat, k ≤ l.length ∧ x = .int .i64 (k : Int) ∧ l.take k = m.take k ∧ ∃ n, wr = w.drewN n)
      (fun x _ => (l.length - (intOf x).toNat))
    case atStart => exact ⟨0, by omega, rfl, rfl, 0, rfl⟩
    case round =>
      obtain ⟨k, hk, rfl, htk, nd, rfl⟩ := hrel
      have Ht := Lib.hid htk
      clear htk
      by_cases hlt : k < l.length
      · obtain ⟨b1, off1, ha, hb1, hc1⟩ := hr k hlt
        obtain ⟨b2, off2, hb, hb2, hc2⟩ := hs k (by omega)
        subst ha
        subst hb
        have hltm : k < m.length := by omega
        have hi1 : (k : Int) < (l.length : Int) := by omega
        have hi2 : (k : Int) < (m.length : Int) := by omega
        by_cases he : l.getD k 0 = m.getD k 0
        · have hb : (l[k] != m[k]) = false := by simpa [List.getD, hlt, hltm] using he
          have He := Lib.hid he
          clear he
          go_wp2
          go_quiet (fail)
          go_wp2
          go_roundw
          case rel =>
            refine ⟨k + 1, by omega, by go_num, ?_, _, rfl⟩
            rw [List.take_succ_eq_append_getElem hlt, List.take_succ_eq_append_getElem hltm, Ht.out]
            have := He.out
            simp only [List.getD, List.getElem?_eq_getElem hlt, List.getElem?_eq_getElem hltm, Option.getD_some] at this
            rw [this]
          case measure => simp [intOf]; omega
        · have hb : (l[k] != m[k]) = true := by simpa [List.getD, hlt, hltm] using he
          have hne : l ≠ m := fun h => he (by rw [h])
          have Hne := Lib.hid hne
          clear he hne
          go_wp2
          go_quiet (fail)
          go_wp2
          go_ret
          exact ⟨ret_bool (by have := Hne.out; simp [this]), below_drewN (below_drewN (Below.refl _ _) _) _⟩
      · have hkl : k = l.length := by omega
        have hlm : l = m := by
          have := Ht.out
          rw [hkl, List.take_length, Hn.out, List.take_length] at this
          exact this
        have Hlm := Lib.hid hlm
        clear hkl hlm
        go_wp2
        go_ret
        exact ⟨ret_bool (by have := Hlm.out; simp [this]), below_drewN (Below.refl _ _) _⟩
  · have hn : ((l.length : Int) != (m.length : Int)) = true := by
      have : ¬ (l.length : Int) = (m.length : Int) := by omega
      simp [this]
    have hne : l ≠ m := fun h => hlen (by rw [h])
    have Hne := Lib.hid hne
    clear hne hlen
    go_enter Try.func22, Try.ntmps22
    go_wp2
    go_ret
    exact ⟨ret_bool (by have := Hne.out; simp [this]), Below.refl _ _⟩

end Go.Proofs.Ytldjlabllhnpjaa
