/- Contracts of the exact laws' helpers that mark a list and ask for the marks. -/
import Derived.Test.YtldjlabllhnpjaaRd
set_option linter.unusedVariables false
namespace Go.Proofs.Ytldjlabllhnpjaa
open Go.RowKit

/-- n numbers from k on. -/
def marks (n : Nat) (k : Int) : List Int := (List.range n).map fun (i : Nat) => k + (i : Int)
theorem marks_length (n : Nat) (k : Int) : (marks n k).length = n := by simp [marks]
theorem marks_get (n : Nat) (k : Int) (i : Nat) (h : i < n) : (marks n k).getD i 0 = k + (i : Int) := by simp [marks, List.getD, h]
theorem marks_succ (n : Nat) (k : Int) : marks (n + 1) k = marks n k ++ [k + (n : Int)] := by simp [marks, List.range_succ]

def markTo (l : List Int) (k : Int) (i : Nat) : List Int := marks i k ++ l.drop i
theorem markTo_length (l : List Int) (k : Int) (i : Nat) (h : i ≤ l.length) : (markTo l k i).length = l.length := by simp [markTo, marks_length]; omega
theorem markTo_all (l : List Int) (k : Int) : markTo l k l.length = marks l.length k := by simp [markTo]
theorem markTo_succ (l : List Int) (k : Int) (i : Nat) (h : i < l.length) : (markTo l k i).set i (k + (i : Int)) = markTo l k (i + 1) := by
  unfold markTo
  rw [List.set_append_right _ _ (by rw [marks_length]; omega), marks_length, Nat.sub_self, List.drop_eq_getElem_cons h, List.set_cons_zero, marks_succ, List.append_assoc]
  rfl

theorem grown_next {a b c : World} {row : Option Nat} (h : a.grownBy b row) (k : b.grownBy c row) : a.grownBy c row :=
  ⟨k.os.trans h.os, k.tape.trans h.tape, k.output.trans h.output, Nat.le_trans h.size k.size, fun i hi hne => (k.block i (Nat.lt_of_lt_of_le hi h.size) hne).trans (h.block i hi hne)⟩
theorem bel2 {a b c : World} (h : Below a.heap.size a b) (k : Below b.heap.size b c) : Below a.heap.size a c := h.trans (k.mono h.size)

/-- An owned list stays while another one is written. -/
theorem Owns.grown {B : Nat} {w w' : World} {v : Value} {l : List Int} (h : Owns B w v l) {row : Option Nat} (hg : w.grownBy w' row) (hne : ∀ j, v.ownBlock = some j → some j ≠ row) : Owns B w' v l := by
  refine ⟨h.1, ?_⟩
  rcases h.2 with hn | ⟨g, cap, cur, rfl, hb', hgg, rest⟩
  · exact .inl hn
  · exact .inr ⟨g, cap, cur, rfl, hb', by rw [hg.block g (Array.getElem?_eq_some_iff.1 hgg).1 (hne g rfl)]; exact hgg, rest⟩
/-- An elder list stays while a younger one is written. -/
theorem Owns.past_lo {B BX : Nat} {w0 w w' : World} {v x : Value} {l m : List Int} (h0 : Owns B w0 v l) (h : Owns B w v l) (hX : Owns BX w' x m) (hg : w.grownBy w' x.ownBlock) (hle : w0.heap.size ≤ BX) : Owns B w' v l :=
  h.grown hg fun j hj he => by
    have h1 := (h0.lt j hj).2
    have h2 := (hX.lt j he.symm).1
    omega
/-- A younger list stays while an elder one is written. -/
theorem Owns.past_hi {B BX : Nat} {wX w w' : World} {v x : Value} {l m : List Int} (h : Owns B w v l) (hX : Owns BX wX x m) (hg : w.grownBy w' x.ownBlock) (hle : wX.heap.size ≤ B) : Owns B w' v l :=
  h.grown hg fun j hj he => by
    have h1 := (h.lt j hj).1
    have h2 := (hX.lt j he.symm).2
    omega

theorem markIntS_any (B : Nat) (a : Option Addr) (cap : Nat) (l : List Int) (k : Int) (w : World) (hl : l.length ≤ 1000000000) (k0 : 0 ≤ k) (k1 : k ≤ 1000000000)
    (hO : Owns B w (.slice a l.length cap) l) :
    Calls Try.prog 23 #[.slice a l.length cap, .int .i64 k] w fun e w' => e = .returned (.int .i64 (k + (l.length : Int))) ∧ Owns B w' (.slice a l.length cap) (marks l.length k) ∧ Below B w w' ∧ w.grownBy w' (Value.slice a l.length cap).ownBlock := by
  by_cases h0 : 0 < l.length
  · obtain ⟨g, cap', hv, hBg, hgw, hlc, hcm, hcell, hfr⟩ := hO.head h0
    simp only [Value.slice.injEq] at hv
    obtain ⟨rfl, -, rfl⟩ := hv
    clear hcell hfr
    have hb0 := Below.refl B w
    go_enter Try.func23, Try.ntmps23
    go_wp2
    go_loopw [1, 5] (fun y x wr => ∃ i : Nat, i ≤ l.length ∧ x = .int .i64 (i : Int) ∧ y = .int .i64 (k + (i : Int)) ∧ Owns B wr (.slice (some ⟨g, 0, none⟩) l.length cap) (markTo l k i) ∧ Below B w wr ∧ w.grownBy wr (some g))
      (fun _ x _ => (l.length - (intOf x).toNat))
    case atStart => exact ⟨0, by omega, rfl, by simp, by simpa [markTo, marks] using hO, hb0, World.grownBy.mk rfl rfl rfl (Nat.le_refl _) (fun _ _ _ => rfl)⟩
    case round =>
      obtain ⟨i, hi, rfl, rfl, hOi, hbel, hgr⟩ := hrel
      by_cases hlt : i < l.length
      · obtain ⟨g', cap', hv, -, -, -, -, hcell, hfr⟩ := hOi.head (by rw [markTo_length l k i hi]; exact h0)
        simp only [Value.slice.injEq, Option.some.injEq, Addr.mk.injEq] at hv
        obtain ⟨⟨rfl, -, -⟩, -, -⟩ := hv
        have hc := hcell i (by rw [markTo_length l k i hi]; exact hlt)
        have hf := hfr i
        have hst := Lib.hid (hOi.store i (k + (i : Int)))
        have hsucc := Lib.hid (markTo_succ l k i hlt)
        clear hcell hfr
        go_wp2
        go_roundw
        case rel => exact ⟨i + 1, by omega, by go_num, by go_num, by rw [← hsucc.out]; exact hst.out.1, hbel.setCell hBg _, grown_next hgr hst.out.2⟩
        case measure => simp [intOf]; omega
      · go_wp2
        go_ret
        obtain rfl : i = l.length := by omega
        rw [markTo_all] at hOi
        exact ⟨rfl, hOi, hbel, hgr⟩
  · have hn : l = [] := List.eq_nil_of_length_eq_zero (by omega)
    subst hn
    go_enter Try.func23, Try.ntmps23
    go_wp2
    go_loopw [1, 5] (fun y x wr => x = .int .i64 0 ∧ y = .int .i64 k ∧ wr = w) (fun _ _ _ => 0)
    case atStart => exact ⟨rfl, rfl, rfl⟩
    case round =>
      obtain ⟨rfl, rfl, rfl⟩ := hrel
      go_wp2
      go_ret
      exact ⟨ret_int (by simp), by simpa [marks] using hO, Below.refl _ _, World.grownBy.mk rfl rfl rfl (Nat.le_refl _) (fun _ _ _ => rfl)⟩

theorem heldIntS_any (a : Option Addr) (cap n : Nat) (k : Int) (w : World) (hl : n ≤ 1000000000) (k0 : 0 ≤ k) (k1 : k ≤ 1000000000) (hr : Reads .i64 w a (marks n k)) :
    Calls Try.prog 24 #[.slice a n cap, .int .i64 k] w fun e w' => e = .returned (.int .i64 (k + (n : Int))) ∧ w = w' := by
  go_enter Try.func24, Try.ntmps24
  go_wp2
  go_loop [1, 5] (fun y x => ∃ i : Nat, i ≤ n ∧ x = .int .i64 (i : Int) ∧ y = .int .i64 (k + (i : Int)))
    (fun _ x => (n - (intOf x).toNat))
  case atStart => exact ⟨0, by omega, rfl, by simp⟩
  case round =>
    obtain ⟨i, hi, rfl, rfl⟩ := hrel
    by_cases hlt : i < n
    · obtain ⟨b, off, ha, hb, hc⟩ := hr i (by rw [marks_length]; exact hlt)
      subst ha
      rw [marks_get n k i hlt] at hc
      have he : (k + (i : Int) != k + (i : Int)) = false := by simp
      go_wp2
      go_round
      case rel => exact ⟨i + 1, by omega, by go_num, by go_num⟩
      case measure => simp [intOf]; omega
    · go_wp2
      go_ret
      obtain rfl : i = n := by omega
      exact ⟨rfl, rfl⟩

end Go.Proofs.Ytldjlabllhnpjaa
