/- Contracts of the draws of places and of octads. -/
import Derived.Test.YteedbejlbjfkgaaWRdW
import Derived.Test.YteedbejlbjfkgaaWDrawRes
import Derived.Test.YteedbejlbjfkgaaWWd
import Derived.Test.YteedbejlbjfkgaaMk
import Derived.Test.YteedbejlbjfkgaaWMark
import Derived.Test.YteedbejlbjfkgaaPm
import Derived.Deep.RegionWith
set_option linter.unusedVariables false
namespace Go.Proofs.Yteedbejlbjfkgaa
open Go.RowKit Res

theorem wtTo_all {m k : Nat} (h : ∀ i, i < k → m.testBit i = true) : wtTo m k = k := by
  induction k with
  | zero => rfl
  | succ k ih =>
    show wtTo m k + bitN m k = k + 1
    rw [ih (fun i hi => h i (by omega)), bitN_true (h k (by omega))]
theorem free_place {m : Nat} (h : wt m < 24) : ∃ f, f < 24 ∧ m.testBit f = false := by
  by_cases hx : ∃ f, f < 24 ∧ m.testBit f = false
  · exact hx
  · exfalso
    have : wt m = 24 := wtTo_all (fun i hi => by
      cases hb : m.testBit i
      · exact absurd ⟨i, hi, hb⟩ hx
      · rfl)
    omega

/-- A reader stays while a list above it is written. -/
theorem Reader.grownO {w w' : World} {r K : Nat} {row : Option Nat} (h : Reader w r K) (hg : w.grownBy w' row) (hne : ∀ j, row = some j → r < j) : Reader w' r K := by
  have hlt := h.lt
  have hb : Below (r + 1) w w' := (Below.refl (r + 1) w).grown hg (by omega) (fun k hk => by have := hne k hk; omega)
  obtain ⟨a, l, cap, p, hh, hp, hl, hc, hby⟩ := h
  refine ⟨a, l, cap, p, by rw [hb.block r (by omega)]; exact hh, hp, hl, fun i hi => ?_, hby⟩
  obtain ⟨b, off, ha, hbr, hcell⟩ := hc i hi
  exact ⟨b, off, ha, hbr, by rw [hb.cell (p := ⟨b, off + i, none⟩) (by show b < _; omega)]; exact hcell⟩
theorem grown_own {a b c : World} {r : Nat} {row : Option Nat} (h : a.grownBy b (some r)) (k : b.grownBy c row) (hne : ∀ j, row = some j → a.heap.size ≤ j) : a.grownBy c (some r) :=
  ⟨k.os.trans h.os, k.tape.trans h.tape, k.output.trans h.output, Nat.le_trans h.size k.size, fun i hi hn => (k.block i (Nat.lt_of_lt_of_le hi h.size) (fun e => by have := hne i e.symm; omega)).trans (h.block i hi hn)⟩
/-- An owned list stays while a reader below it reads. -/
theorem Owns.read {B r : Nat} {w w' : World} {v : Value} {l : List Int} (h : Owns B w v l) (hg : w.grownBy w' (some r)) (hr : r < B) : Owns B w' v l :=
  h.grown hg (fun j hj e => by
    have := (h.lt j hj).1
    simp at e
    omega)

theorem Reader.allocd {w : World} {r K : Nat} {o : Obj} (h : Reader w r K) : Reader (w.alloc o) r K := h.kept ((Below.refl w.heap.size w).alloc (Nat.le_refl _) o)
theorem cell_allocd {w : World} {g i : Nat} {o : Obj} {v : Value} (hg : g < w.heap.size) (h : w.cell? ⟨g, i, none⟩ = some v) : (w.alloc o).cell? ⟨g, i, none⟩ = some v := by
  rw [World.cell?_of_block (w := w) (Below.heap_alloc w o _ hg)]
  exact h
theorem frozen_allocd {w : World} {g i : Nat} {o : Obj} {b : Bool} (hg : g < w.heap.size) (h : w.frozen? ⟨g, i, none⟩ = b) : (w.alloc o).frozen? ⟨g, i, none⟩ = b := by
  unfold World.frozen? at h ⊢
  rw [show (w.alloc o).heap[g]? = w.heap[g]? from Below.heap_alloc w o _ hg]
  exact h
theorem cell_grown {w w' : World} {r g i : Nat} {v : Value} (hg : w.grownBy w' (some r)) (hl : g < w.heap.size) (hne : g ≠ r) (h : w.cell? ⟨g, i, none⟩ = some v) : w'.cell? ⟨g, i, none⟩ = some v := by
  rw [World.cell?_of_block (w := w) (hg.block g hl (by simp; exact hne))]
  exact h
theorem frozen_grown {w w' : World} {r g i : Nat} {b : Bool} (hg : w.grownBy w' (some r)) (hl : g < w.heap.size) (hne : g ≠ r) (h : w.frozen? ⟨g, i, none⟩ = b) : w'.frozen? ⟨g, i, none⟩ = b := by
  unfold World.frozen? at h ⊢
  rw [show w'.heap[g]? = w.heap[g]? from hg.block g hl (by simp; exact hne)]
  exact h
/-- The cells of a list of three that was just made. -/
theorem cell_new3 (w : World) (x y z : Int) (t : TypeId) (k : Nat) (hk : k < 3) :
    (w.alloc (.cells #[.int .i64 x, .int .i64 y, .int .i64 z] t)).cell? ⟨w.heap.size, k, none⟩ = some (.int .i64 ([x, y, z].getD k 0)) := by
  rw [cell_of_row _ w.heap.size k _ _ _ (heap_alloc_new w _)]
  match k, hk with
  | 0, _ => rfl
  | 1, _ => rfl
  | 2, _ => rfl

/-- The length of a slice. -/
def lenOf : Value → Nat
  | .slice _ n _ => n
  | _ => 0
/-- A drawn list of ints. -/
def DrewL (n : Nat) (r K : Nat) (w : World) (e : Ending) (w' : World) : Prop :=
  ∃ (v : Value) (l : List Int), e = .returned v ∧ Owns w.heap.size w' v l ∧ l.length = n ∧ Reader w' r K ∧ w.grownBy w' (some r)

set_option maxHeartbeats 1000000 in
theorem l91Places_any (r K : Nat) (n : Nat) (w : World) (hR : Reader w r K) (hK : K ≤ 800000) (hn : n ≤ 24) (hn0 : 0 < n) :
    Calls Try.prog 70 #[.pointer (some ⟨r, 0, none⟩), .int .i64 (n : Int)] w (DrewL n r (K + 26) w) := by
  have hni : (0 : Int) < (n : Int) := by omega
  have hR0 := hR.kept ((Below.refl w.heap.size w).alloc (Nat.le_refl _) (.cells #[] 3))
  have hrl := hR.lt
  have hg0 := grown_of_below ((Below.refl w.heap.size w).alloc (Nat.le_refl _) (.cells #[] 3)) (some r)
  go_enter Try.func70, Try.ntmps70
  go_wp2_with fail
  go_loopw [5, 6, 7] (fun v s p wr => ∃ (m : Nat) (L : List Int) (q : Value), p = q ∧ s = .int .i64 (m : Int) ∧ m < 16777216 ∧ wt m = L.length ∧ L.length ≤ n ∧ Owns w.heap.size wr v L ∧ Reader wr r (K + L.length) ∧ w.grownBy wr (some r))
    (fun v _ _ _ => (24 - lenOf v))
  case atStart => exact ⟨0, [], _, rfl, rfl, by omega, by decide +kernel, by simp, Owns.empty w (Nat.le_refl _), hR0, hg0⟩
  case round =>
    obtain ⟨m, L, q, rfl, rfl, hm, hwt, hLn, hO, hRr, hgr⟩ := hrel
    obtain ⟨a5, c5, rfl, hR5, hl5, hc5⟩ := hO.shape
    have hsz := hgr.size
    by_cases hlt : L.length < n
    · have hlti : (L.length : Int) < (n : Int) := by omega
      obtain ⟨f, hf, hfb⟩ := free_place (m := m) (by omega)
      have HO := Lib.hid hO
      have HW := Lib.hid hwt
      clear hR5 hO hwt
      go_wp2_with fail
      refine (pick_any _ _ _ _ hRr (by omega) (by omega) (by omega)).mono ?_
      rintro e w1 ⟨n1, rfl, hn1, hm1, hR1, hg1, hz1⟩
      obtain ⟨n1, rfl⟩ := Int.eq_ofNat_of_zero_le hn1
      have hO1 := HO.out.read hg1 hrl
      have hlt1 := hO1.lt
      have hsz1 : w.heap.size ≤ w1.heap.size := by omega
      clear hz1
      go_wp2_with fail
      go_loop [7] (fun x => ∃ q : Nat, q < 24 ∧ x = .int .i64 (q : Int)) (fun x => ((f + 24 - (intOf x).toNat) % 24))
      case atStart => exact ⟨n1, by omega, rfl⟩
      case round =>
        obtain ⟨q, hq, rfl⟩ := hrel
        have CB := Lib.hid (fun w => l1Bit_any (m : Int) (q : Int) w (by omega) (by omega) (by omega) (by omega))
        rw [Int.toNat_natCast, Int.toNat_natCast] at CB
        cases hbit : m.testBit q
        · have hb1 : (((bitN m q : Nat) : Int) == 1) = false := bitN_test_false hbit
          have hor := (add_step (m := m) (k := q) (by omega) (by omega)).trans (congrArg (Nat.cast : Nat → Int) (add_bit hbit))
          have HOR := Lib.hid hor
          have hw1 := wtTo_or hbit 24
          rw [if_pos hq] at hw1
          have hw2 : wt (m ||| 2 ^ q) = wt m + 1 := hw1
          have HW2 := Lib.hid hw2
          have hlt2 : m ||| 2 ^ q < 16777216 := Nat.lt_of_lt_of_le (Nat.or_lt_two_pow (n := 24) hm (Nat.pow_lt_pow_right (by omega) hq)) (by decide)
          have HLT := Lib.hid hlt2
          generalize bitN m q = bb at *
          clear hor hbit hfb hw1 hw2 hlt2
          go_wp2_with fail
          refine (CB.out _).mono ?_
          rintro e w' ⟨rfl, rfl⟩
          go_wp2_with (first | (at_builtin; refine wpList_app rfl _ _ rfl w.heap.size _ rfl hO1 rfl (by omega) (by omega) ?_; intro v' w2 hO' hbel' hg'))
          have hR2 := hR1.grownO hg' (fun j hj => Nat.lt_of_lt_of_le hrl (hlt1 j hj).1)
          have hgg := grown_own (grown_trans hgr hg1) hg' (fun j hj => (hlt1 j hj).1)
          have hO2 := Lib.hid hO'
          obtain ⟨a6, c6, rfl, -, -, -⟩ := hO'.shape
          clear hO'
          go_roundw
          case rel =>
            refine ⟨m ||| 2 ^ q, L ++ [(q : Int)], _, rfl, congrArg _ HOR.out, HLT.out, ?_, by simp; omega, hO2.out, ?_, ?_⟩
            · rw [HW2.out, HW.out]; simp
            · simpa [Nat.add_assoc] using hR2
            · exact hgg
          case measure =>
            simp [lenOf]
            omega
        · have hb1 : (((bitN m q : Nat) : Int) == 1) = true := bitN_test_true hbit
          have hqf : q ≠ f := fun e => by rw [e, hfb] at hbit; cases hbit
          generalize bitN m q = bb at *
          clear hbit hfb
          go_wp2_with fail
          refine (CB.out _).mono ?_
          rintro e w' ⟨rfl, rfl⟩
          go_wp2_with fail
          go_round
          case rel => exact ⟨(q + 1) % 24, by omega, by go_num⟩
          case measure => simp [intOf]; omega
    · have hLe : L.length = n := by omega
      have HLe := Lib.hid hLe
      have hLi : (n : Int) ≤ (L.length : Int) := by omega
      have hrb := hrl
      clear hLe hlt hwt
      have HO := Lib.hid hO
      have hlt5 := hO.lt
      clear hO
      go_wp2_with fail
      refine (pick_any _ _ _ _ hRr (by omega) (by omega) (by omega)).mono ?_
      rintro e w2 ⟨n2, rfl, hn2, hm2, hR2, hg2, hz2⟩
      have HO2 := Lib.hid (HO.out.read hg2 hrl)
      have hgg := grown_trans hgr hg2
      by_cases h0 : n2 = 0
      · have e0 : (n2 == 0) = true := by rw [beq_iff_eq]; exact h0
        clear h0
        obtain ⟨M, hM⟩ : ∃ M, n = M + 1 := ⟨n - 1, by omega⟩
        have hLM : L.length = M + 1 := by rw [HLe.out, hM]
        obtain ⟨g, c7, hv, hgB, hgl, -, -, hcs, hfz⟩ := HO2.out.head (by omega)
        simp only [Value.slice.injEq] at hv
        obtain ⟨rfl, -, rfl⟩ := hv
        subst hM
        have hO2 := HO2.out
        have hcM := hcs M (by omega)
        have hc0 := hcs 0 (by omega)
        have hf0 := hfz 0
        have hR2d : Reader w2.drew r (K + L.length + 1) := hR2
        have HL := Lib.hid hLM
        have hRa := fun o => hR2d.kept ((Below.refl w2.drew.heap.size w2.drew).alloc (Nat.le_refl _) o)
        have HRA := Lib.hid hRa
        have HRB := Lib.hid hR2d
        have hKL : K + L.length + 1 ≤ 900000 := by omega
        rw [hLM] at hlt5 hl5 hO2 ⊢
        have hM24 : (M : Int) ≤ 23 := by omega
        have hM0 : (0 : Int) ≤ (M : Int) := by omega
        have hMM : (M : Int) < (M : Int) + 1 := by omega
        have hw65 : IntKind.i64.wrap (M : Int) = (M : Int) := wrap_nat M (by omega)
        clear hRa hR2d HLe HO HO2 hRr hR5 hcs hfz hz2 hLi hLM
        generalize L.getD M 0 = x at *
        generalize L.getD 0 0 = x0 at *
        have CP : Hid (∀ W, Reader W r (K + L.length + 1) → Calls Try.prog 60 #[.pointer (some ⟨r, 0, none⟩), .int .i64 3] W (Picked 3 r (K + L.length + 1) W)) := Lib.hid (fun W h => pick_any r _ 3 W h (by omega) (by omega) (by omega))
        have hne : g ≠ r := by omega
        go_wp2_with fail
        go_region_with (first | (go_at_call 60
                                 refine (CP.out _ ?_).mono ?_
                                 (first | (refine Reader.allocd ?_; exact HRB.out) | exact HRB.out)
                                 rintro e w3 ⟨n3, rfl, hn3, hm3, hR3, hg3, hz3⟩
                                 obtain ⟨q, rfl⟩ := Int.eq_ofNat_of_zero_le hn3
                                 clear hz3
                                 have hc03 : w3.cell? ⟨g, 0, none⟩ = some (.int .i64 x0) := cell_grown hg3 (by first | exact hgl | (simp; omega)) hne (by first | exact cell_allocd hgl hc0 | exact hc0)
                                 have hcM3 : w3.cell? ⟨g, M, none⟩ = some (.int .i64 x) := cell_grown hg3 (by first | exact hgl | (simp; omega)) hne (by first | exact cell_allocd hgl hcM | exact hcM)
                                 have hf03 : w3.frozen? ⟨g, 0, none⟩ = false := frozen_grown hg3 (by first | exact hgl | (simp; omega)) hne (by first | exact frozen_allocd hgl hf0 | exact hf0)
                                 have hnew := cell_new3 w3 24 (-1) x 3 q (by omega)
                                 (first | have hnewA : w3.cell? ⟨w2.heap.size, q, none⟩ = some (.int .i64 ([24, -1, x].getD q 0)) := cell_grown hg3 (by simp) (by omega) (cell_new3 w2.drew 24 (-1) x 3 q (by omega)) | skip)
                                 have hg3l : g < w3.heap.size := Nat.lt_of_lt_of_le (by first | exact hgl | (simp; omega)) hg3.size
                                 have hc0a : ∀ o, (w3.alloc o).cell? ⟨g, 0, none⟩ = some (.int .i64 x0) := fun o => cell_allocd hg3l hc03
                                 have hf0a : ∀ o, (w3.alloc o).frozen? ⟨g, 0, none⟩ = false := fun o => frozen_allocd hg3l hf03
                                 generalize ([24, -1, x] : List Int).getD q 0 = y3 at *
                                 have hqi : (q : Int) < 3 := hm3))
        all_goals
          go_wp2_with fail
          go_ret
          have hrg : r < g := by omega
          first
            | (have hO3 : Owns w.heap.size w3 (.slice (some ⟨g, 0, none⟩) (M + 1) c5) L := Owns.read (Owns.alloc (w := w2.drew) hO2 _) hg3 hrl
               have hgA := grown_trans hgg (grown_drew (grown_trans (grown_of_below ((Below.refl _ _).alloc (Nat.le_refl _) _) _) hg3))
               have hS := hO3.store 0 y3
               exact ⟨_, L.set 0 y3, rfl, hS.1, by rw [List.length_set]; exact HL.out, (hR3.grownO hS.2 (fun j hj => by cases hj; exact hrg)).mono (by have := HL.out; omega), grown_own hgA hS.2 (fun j hj => by cases hj; exact hgB)⟩)
            | (have hO3 : Owns w.heap.size w3 (.slice (some ⟨g, 0, none⟩) (M + 1) c5) L := Owns.read (w := w2.drew) hO2 hg3 hrl
               have hgA := grown_trans hgg (grown_drew hg3)
               have hS := hO3.store 0 y3
               exact ⟨_, L.set 0 y3, rfl, hS.1.alloc _, by rw [List.length_set]; exact HL.out, (Reader.allocd (hR3.grownO hS.2 (fun j hj => by cases hj; exact hrg))).mono (by have := HL.out; omega), grown_trans (grown_own hgA hS.2 (fun j hj => by cases hj; exact hgB)) (grown_of_below ((Below.refl _ _).alloc (Nat.le_refl _) _) _)⟩)
      · have e0 : (n2 == 0) = false := by rw [beq_eq_false_iff_ne]; exact h0
        clear h0
        go_wp2_with fail
        go_ret
        exact ⟨_, L, rfl, HO2.out, HLe.out, hR2.mono (by have := HLe.out; omega), hgg⟩


end Go.Proofs.Yteedbejlbjfkgaa
