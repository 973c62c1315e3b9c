/- Contracts of LineIn: the basis in a map, the rest by a closure. -/
import Derived.Test.YteedbejlbjfkgaaWLn
import Derived.Test.YteedbejlbjfkgaaLnIn
import Derived.Maps.OwnSet
import Derived.Maps.OwnOps
import Derived.Maps.Views
import Derived.OneCell
import Derived.StillTailTactics
set_option linter.unusedVariables false
namespace Go.Proofs.Yteedbejlbjfkgaa
open Go.RowKit Go.Maps Res

theorem keyInt : Keyed Try.prog 3 := int_keyed Try.underlying3
theorem zeroInt (w : World) : (zeroValue 3).run Try.prog w = .ok (.int .i64 0) w := by kernel_rfl

/-- A map, as it reads, holds a basis. -/
def BMap (D : DataW Unit) (bl : List Nat) : Prop :=
  IsMap D ∧ ∀ p : Nat, p < 24 → Maps.has D (.int .i64 (p : Int)) = decide (bl.getD p 0 ≠ 0) ∧ D.atKey (.int .i64 (p : Int)) (.lit (.int .i64 0)) = .lit (.int .i64 ((bl.getD p 0 : Nat) : Int))

theorem rest_any (bl : List Nat) (hbl : ∀ p, bl.getD p 0 < 2 ^ 24) (x : Nat) (hx : x < 2 ^ 24) (g mb n : Nat) (D : DataW Unit) (w : World)
    (hcell : w.heap[g]? = some (.cells #[.map (some mb)] 47 (0, 0))) (hown : w.ownsMap Try.prog 3 (plainElem Try.prog 3) mb n D) (hD : BMap D bl) :
    Calls Try.prog 41 #[.int .i64 (x : Int), .pointer (some ⟨g, 0, none⟩)] w fun e w' => e = .returned (.int .i64 (rst bl x 24 : Nat)) ∧ w = w' := by
  have hc := cell_of_one hcell
  have HD := Lib.hid hD
  have Hbl := Lib.hid hbl
  clear hD hcell hbl
  go_enter Try.func41, Try.ntmps41
  go_wp2
  go_loop [0, 4] (fun s y => ∃ k : Nat, k ≤ 24 ∧ y = .int .i64 (23 - (k : Int)) ∧ s = .int .i64 (rst bl x k : Nat))
    (fun _ y => (intOf y + 1).toNat)
  case atStart => exact ⟨0, by omega, rfl, rfl⟩
  case round =>
    obtain ⟨k, hk, rfl, rfl⟩ := hrel
    have hr := rst_lt Hbl.out hx k
    by_cases hlt : k < 24
    · obtain ⟨hhas, hat0⟩ := HD.out.2 (23 - k) (by omega)
      rw [show ((23 - k : Nat) : Int) = 23 - (k : Int) by omega] at hhas hat0
      have Hhas := Lib.hid hhas
      have Hat := Lib.hid hat0
      clear hhas hat0
      have hkey : keyOf Try.prog 3 (.int .i64 (23 - (k : Int))) = some (.int .i64 (23 - (k : Int))) := keyOf_int_mk Try.underlying3 (WalkArith.wf_i64 (by omega))
      go_wp2_with (at_lookup; refine wpList_lookup_own_ok_int _ rfl _ _ 47 rfl 3 3 .i64 keyInt Try.underlying47 Try.underlying3 (zeroInt _) mb n D rfl hown _ _ rfl hkey ?_; intro c hat hwc)
      · have hbit : (bits .and .i64 (((rst bl x k : Nat) : Int) / 2 ^ (23 - k)) 1 == 1) = true := by assumption
        have hat : D.atKey (.int .i64 (23 - (k : Int))) (.lit (.int .i64 0)) = .lit (.int .i64 c) := by assumption
        have hc' : c = ((bl.getD (23 - k) 0 : Nat) : Int) := by rw [Hat.out] at hat; simp at hat; rw [← hat]; simp [List.getD]
        rw [bit_int _ _ (by omega)] at hbit
        have htb : (rst bl x k).testBit (23 - k) = true := by
          cases h : (rst bl x k).testBit (23 - k)
          · rw [bitN_false h] at hbit; cases hbit
          · rfl
        have hbb := Hbl.out (23 - k)
        go_round
        case rel => exact ⟨k + 1, by omega, by go_num, by rw [hc', i64_xor _ _ (by omega) (by omega), rst_hit htb]⟩
        case measure => simp [intOf]; omega
      · have hbit : (bits .and .i64 (((rst bl x k : Nat) : Int) / 2 ^ (23 - k)) 1 == 1) = false := by assumption
        rw [bit_int _ _ (by omega)] at hbit
        have htb : (rst bl x k).testBit (23 - k) = false := by
          cases h : (rst bl x k).testBit (23 - k)
          · rfl
          · rw [bitN_true h] at hbit; cases hbit
        go_round
        case rel => exact ⟨k + 1, by omega, by go_num, by rw [rst_miss htb]⟩
        case measure => simp [intOf]; omega
      · have hno : ¬ Maps.has D (.int .i64 (23 - (k : Int))) = true := by assumption
        have hz : bl.getD (23 - k) 0 = 0 := by
          rw [Hhas.out] at hno
          by_cases e : bl.getD (23 - k) 0 = 0
          · exact e
          · exact absurd (by simpa using e) hno
        go_round
        case rel => exact ⟨k + 1, by omega, by go_num, by rw [rst_none hz]⟩
        case measure => simp [intOf]; omega
    · go_wp2
      go_ret
      obtain rfl : k = 24 := by omega
      exact ⟨rfl, rfl⟩

theorem bmap_start : BMap (.map []) (blTo 0) := by
  refine ⟨⟨[], rfl⟩, fun p hp => ?_⟩
  have e : (blTo 0).getD p 0 = 0 := (show ∀ p, p < 24 → (blTo 0).getD p 0 = 0 by decide) p hp
  rw [e]
  exact ⟨rfl, rfl⟩

theorem bmap_set {D : DataW Unit} {bl : List Nat} (h : BMap D bl) (hl : bl.length = 24) (p x : Nat) (hp : p < 24) (hx : x ≠ 0) :
    BMap (D.put (.int .i64 (p : Int)) (.lit (.int .i64 (x : Int)))) (bl.set p x) := by
  refine ⟨h.1.put _ _, fun q hq => ?_⟩
  by_cases e : q = p
  · subst e
    have e1 : (bl.set q x).getD q 0 = x := by simp [List.getD, hl, hp]
    rw [e1, has_put_same h.1 (by simp [WideAt.IsKeyLit]), atKey_put_same h.1 (by simp [WideAt.IsKeyLit])]
    exact ⟨by simp [hx], rfl⟩
  · have e1 : (bl.set p x).getD q 0 = bl.getD q 0 := by simp [List.getD, Ne.symm e]
    have hne : (Lit.int .i64 (q : Int)) ≠ .int .i64 (p : Int) := by simp; omega
    rw [e1, has_put_other hne, atKey_put_other hne]
    exact h.2 q hq


theorem implLineIn_no (n : Int) (w : World) (h : inB n 0 16777215 = false) :
    Calls Try.prog 14 #[.int .i64 n] w fun e w' => e = .returned (.bool false) ∧ w = w' := by
  go_enter Try.func14, Try.ntmps14
  go_wp2_with fail
  refine (implWordValid_any _ _).mono ?_
  rintro e w' ⟨rfl, rfl⟩
  go_wp2_with fail
  go_ret
  exact ⟨rfl, rfl⟩

theorem implLineIn_ok (n : Int) (w : World) (h0 : 0 ≤ n) (h1 : n ≤ 16777215) :
    Calls Try.prog 14 #[.int .i64 n] w fun e w' => e = .returned (.bool (lineInB n.toNat)) ∧ Below w.heap.size w w' := by
  obtain ⟨n, rfl⟩ := Int.eq_ofNat_of_zero_le h0
  rw [Int.toNat_natCast]
  have hb : inB (n : Int) 0 16777215 = true := inB_true h0 h1
  have hmm := @run_makeMap Try.prog
  go_enter Try.func14, Try.ntmps14
  go_wp2_with fail
  refine (implWordValid_any _ _).mono ?_
  rintro e w' ⟨rfl, rfl⟩
  go_wp2_with fail
  go_loopw [13] (fun x wr => ∃ k : Nat, k ≤ 23 ∧ x = .int .i64 (k : Int) ∧ wr.heap[w.heap.size + 1]? = some (.cells #[.map (some w.heap.size)] 47 (0, 0)) ∧
      (∃ D : DataW Unit, wr.ownsMap Try.prog 3 (plainElem Try.prog 3) w.heap.size k D ∧ BMap D (blTo k)) ∧ Below w.heap.size w wr ∧ w.heap.size + 2 ≤ wr.heap.size)
    (fun x _ => (24 - (intOf x).toNat))
  case atStart =>
    refine ⟨0, by omega, rfl, ?_, ⟨.map [], (World.ownsMap_made _ _ _ _).alloc _, bmap_start⟩, ((Below.refl _ _).alloc (Nat.le_refl _) _).alloc (by simp) _, by simp⟩
    have := heap_alloc_new (w.alloc (.map #[] 0)) (.cells #[.map (some w.heap.size)] 47)
    simpa using this
  case round =>
    obtain ⟨k, hk, rfl, hcell, ⟨D, hown, hD⟩, hbel, hsz⟩ := hrel
    have hc := cell_of_one hcell
    by_cases hlt : k < 23
    · have hg := gen_le k hlt
      have hbl := Lib.hid (blTo_lt (i := k) (by omega))
      have hrs := rst_lt hbl.out hg 24
      have hlen := Lib.hid (blTo_length (i := k) (by omega))
      have C := Lib.hid (rest_any (blTo k) hbl.out (gen k) hg (w.heap.size + 1) w.heap.size k D wr hcell hown hD)
      have hsame := Lib.hid (blTo_same (i := k))
      have hnew := Lib.hid (blTo_new (i := k))
      generalize rst (blTo k) (gen k) 24 = x at *
      by_cases hx : x = 0
      · have hx0 : ((x : Int) != 0) = false := by rw [hx]; rfl
        have hst := Lib.hid (hsame.out hx)
        have HD := Lib.hid hD
        clear hx hD hsame hnew
        go_wp2_with fail
        refine (generator_any _ _ (by omega) (by omega)).mono ?_
        rintro e w' ⟨rfl, rfl⟩
        go_wp2_with fail
        refine C.out.mono ?_
        rintro e w' ⟨rfl, rfl⟩
        go_wp2_with fail
        go_roundw
        case rel => exact ⟨k + 1, by omega, by go_num, hcell, ⟨D, hown.mono (by omega), by rw [hst.out]; exact HD.out⟩, hbel, hsz⟩
        case measure => simp [intOf]; omega
      · have hx0 : ((x : Int) != 0) = true := by rw [bne_iff_ne]; omega
        have hst := Lib.hid (hnew.out hx)
        have hpl := Lib.hid (places_last hx hrs)
        have HD := Lib.hid hD
        have Hx := Lib.hid hx
        clear hx hD hsame hnew
        go_wp2_with fail
        refine (generator_any _ _ (by omega) (by omega)).mono ?_
        rintro e w' ⟨rfl, rfl⟩
        go_wp2_with fail
        refine C.out.mono ?_
        rintro e w' ⟨rfl, rfl⟩
        go_wp2_with fail
        refine (placesOf_any _ _ (by omega) (by omega)).mono ?_
        rintro e w1 ⟨v1, rfl, hO1, hs1⟩
        simp only [Int.toNat_natCast] at hO1
        obtain ⟨a1, c1, rfl, hR1, hl1, hc1⟩ := hO1.shapeN
        obtain ⟨hp0, hp1⟩ := hpl.out
        obtain ⟨b, off, ha, hb, hcl⟩ := hR1 ((places x).length - 1) (by omega)
        subst ha
        rw [hp1] at hcl
        have hcell1 : w1.heap[w.heap.size + 1]? = some (.cells #[.map (some w.heap.size)] 47 (0, 0)) := by rw [hs1.block _ (by omega)]; exact hcell
        have hcc := cell_of_one hcell1
        have hown1 := hown.kept (World.grownBy.mk hs1.os hs1.tape hs1.output hs1.size (fun i hi _ => hs1.block i hi) : wr.grownBy w1 none) (by simp)
        have hsz1 := hs1.size
        have hl24 := log2_lt24 hrs
        clear hp1 hc
        generalize (places x).length = L at *
        obtain ⟨M, rfl⟩ : ∃ M, L = M + 1 := ⟨L - 1, by omega⟩
        rw [Nat.add_sub_cancel] at hcl
        have hwa : IntKind.i64.wrap ((M : Int) + 1 - 1) = (M : Int) := by rw [Int.add_sub_cancel]; exact IntWalk.i64_in _ (by omega)
        have hwb : IntKind.i64.wrap (M : Int) = (M : Int) := IntWalk.i64_in _ (by omega)
        have hml : (M : Int) < (M : Int) + 1 := by omega
        have hm0 : 0 ≤ (M : Int) := by omega
        go_wp2_with fail
        go_still_tail 8, (by kernel_rfl)
        change wpList _ _ _ _ _ w1.drew
        have hkey : keyOf Try.prog 3 (.int .i64 ((Nat.log2 x : Nat) : Int)) = some (.int .i64 ((Nat.log2 x : Nat) : Int)) := keyOf_int_mk Try.underlying3 (WalkArith.wf_i64 (by omega))
        refine wpList_mapUpdate_own _ rfl _ _ _ 47 rfl 3 3 keyInt Try.underlying47 _ w.heap.size k _ rfl (hown1.drew) (by unfold maxLen; omega) _ _ _ rfl rfl hkey _ [] (plainElem_int Try.underlying3 (WalkArith.wf_i64 (by omega))) ?_
        intro w2 hown2 hgrow2
        have hsz2 := hgrow2.size
        have hb2 : Below w.heap.size w w2 := ((hbel.trans (hs1.mono hbel.size)).drew).grown hgrow2 (by show _ ≤ w1.heap.size; omega) (by intro j hj; simp at hj; omega)
        have hcell2 : w2.heap[w.heap.size + 1]? = some (.cells #[.map (some w.heap.size)] 47 (0, 0)) := by
          rw [hgrow2.block _ (by show _ < w1.heap.size; omega) (by simp)]
          exact hcell1
        have hsz22 : w.heap.size + 2 ≤ w2.heap.size := by
          have : w1.drew.heap.size ≤ w2.heap.size := hsz2
          have e : w1.drew.heap.size = w1.heap.size := rfl
          omega
        have HO2 := Lib.hid hown2
        clear hown2 hgrow2 hkey hown hown1 hs1 hcell hcell1 hcc hcl hR1 hO1 hsz2
        go_wp2
        go_roundw
        case rel => exact ⟨k + 1, by omega, by go_num, hcell2, ⟨_, HO2.out, by rw [hst.out]; exact bmap_set HD.out hlen.out _ _ hl24 Hx.out⟩, hb2, hsz22⟩
        case measure => simp [intOf]; omega
    · obtain rfl : k = 23 := by omega
      have hbl := blTo_lt (i := 23) (by omega)
      have C := Lib.hid (rest_any (blTo 23) hbl n (by omega) (w.heap.size + 1) w.heap.size 23 D wr hcell hown hD)
      rw [blTo_end] at C
      clear hbl
      go_wp2_with fail
      refine C.out.mono ?_
      rintro e w' ⟨rfl, rfl⟩
      go_wp2_with fail
      go_ret
      refine ⟨ret_bool ?_, hbel⟩
      show (((rst blEnd n 24 : Nat) : Int) == 0) = (rst blEnd n 24 == 0)
      rw [Bool.eq_iff_iff, beq_iff_eq, beq_iff_eq]
      omega

end Go.Proofs.Yteedbejlbjfkgaa
