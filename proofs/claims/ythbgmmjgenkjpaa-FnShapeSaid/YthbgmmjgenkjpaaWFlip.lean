/- Contracts of the functions that change signs. -/
import Derived.Test.YthbgmmjgenkjpaaWWd
import Derived.Test.YthbgmmjgenkjpaaWVec
import Derived.Test.YthbgmmjgenkjpaaMk
import Derived.Test.YthbgmmjgenkjpaaLatF
set_option linter.unusedVariables false
namespace Go.Proofs.Ythbgmmjgenkjpaa
open Go.RowKit Res

theorem l9Flip_any (a : Option Addr) (cap : Nat) (l : List Int) (n : Int) (w : World) (hl : l.length = 24) (hbd : ∀ i, -100000 ≤ l.getD i 0 ∧ l.getD i 0 ≤ 100000) (hr : Reads .i64 w a l) (hn0 : 0 ≤ n) (hn : n ≤ 16777215) :
    Calls Try.prog 60 #[.slice a 24 cap, .int .i64 n] w fun e w' => ∃ v, e = .returned v ∧ Owns w.heap.size w' v (flipV l n.toNat) ∧ Below w.heap.size w w' := by
  obtain ⟨n, rfl⟩ := Int.eq_ofNat_of_zero_le hn0
  rw [Int.toNat_natCast]
  have Hbd := Lib.hid hbd
  clear hbd
  go_enter Try.func60, Try.ntmps60
  go_wp2
  go_loopw [5, 6] (fun v x wr => ∃ k : Nat, k ≤ 24 ∧ x = .int .i64 (k : Int) ∧ Owns w.heap.size wr v (flipN l n k) ∧ Below w.heap.size w wr)
    (fun _ x _ => (24 - (intOf x).toNat))
  case atStart => exact ⟨0, by omega, rfl, Owns.empty w (Nat.le_refl _), (Below.refl _ _).alloc (Nat.le_refl _) _⟩
  case round =>
    obtain ⟨k, hk, rfl, hO, hbel⟩ := hrel
    have hlen := Nat.le_of_eq (flipN_length l n k)
    have hsz := hbel.size
    by_cases hlt : k < 24
    · have hk2 : (k : Int) < 24 := by omega
      obtain ⟨b, off, ha, hb, hc⟩ := hr k (by omega)
      subst ha
      have hc' : wr.cell? ⟨b, off + k, none⟩ = some (.int .i64 (l.getD k 0)) := by rw [hbel.cell (p := ⟨b, off + k, none⟩) hb]; exact hc
      have hbd := Hbd.out k
      have hst := Lib.hid (flipN_succ l n k)
      generalize l.getD k 0 = y at *
      cases hbit : n.testBit k
      · have hbb : (((bitN n k : Nat) : Int) == 1) = false := bitN_test_false hbit
        rw [hbit, if_neg (by decide)] at hst
        have hbl := bitN_le n k
        clear hbit hc
        go_wp2_with (first | (go_at_call 70; refine (l1Bit_any _ _ _ (by omega) (by omega) (by omega) (by omega)).mono ?_; rintro e w' ⟨rfl, rfl⟩) | (at_builtin; refine wpList_app rfl _ _ rfl w.heap.size _ rfl hO rfl (by omega) (by omega) ?_; intro v' w1 hO' hbel' hg'))
        go_roundw
        case rel => exact ⟨k + 1, by omega, by go_num, by rw [hst.out]; exact hO', hbel.trans hbel'⟩
        case measure => simp [intOf]; omega
      · have hbb : (((bitN n k : Nat) : Int) == 1) = true := bitN_test_true hbit
        rw [hbit, if_pos rfl] at hst
        have hbl := bitN_le n k
        clear hbit hc
        go_wp2_with (first | (go_at_call 70; refine (l1Bit_any _ _ _ (by omega) (by omega) (by omega) (by omega)).mono ?_; rintro e w' ⟨rfl, rfl⟩) | (at_builtin; refine wpList_app rfl _ _ rfl w.heap.size _ rfl hO rfl (by omega) (by omega) ?_; intro v' w1 hO' hbel' hg'))
        go_roundw
        case rel => exact ⟨k + 1, by omega, by go_num, by rw [hst.out]; exact hO', hbel.trans hbel'⟩
        case measure => simp [intOf]; omega
    · go_wp2
      go_ret
      obtain rfl : k = 24 := by omega
      exact ⟨_, rfl, hO, hbel⟩

theorem grown_trans' {a b c : World} {row : Option Nat} (h : a.grownBy b row) (k : b.grownBy c row) : a.grownBy c row :=
  ⟨k.os.trans h.os, k.tape.trans h.tape, k.output.trans h.output, Nat.le_trans h.size k.size, fun i hi hne => (k.block i (Nat.lt_of_lt_of_le hi h.size) hne).trans (h.block i hi hne)⟩

theorem flipped_any (a : Option Addr) (cap : Nat) (l : List Int) (n : Int) (w : World) (hl : l.length = 24) (hbd : ∀ i, -100000 ≤ l.getD i 0 ∧ l.getD i 0 ≤ 100000) (hr : Reads .i64 w a l) (hn0 : 0 ≤ n) (hn : n ≤ 16777215) :
    Calls Try.prog 58 #[.slice a 24 cap, .int .i64 n] w fun e w' => ∃ v, e = .returned v ∧ Owns w.heap.size w' v (flipV l n.toNat) ∧ Below w.heap.size w w' := by
  obtain ⟨n, rfl⟩ := Int.eq_ofNat_of_zero_le hn0
  rw [Int.toNat_natCast, ← flipL_all l n hl]
  have Hbd := Lib.hid (fun ps => flipL_bd (l := l) (B := 100000) (by omega) hbd ps)
  clear hbd
  have hr0 : Reads .i64 (w.alloc (.cells #[] 3)) a l := hr.kept ((Below.refl _ _).alloc (Nat.le_refl _) _)
  go_enter Try.func58, Try.ntmps58
  go_wp2_with (at_builtin; refine wpList_appAll rfl _ _ rfl w.heap.size [] rfl (Owns.empty w (Nat.le_refl _)) l (by rw [hl]; rfl) hr0 (by omega) (by simp; omega) (by simp) ?_; intro v1 w1 hO1 hs1)
  rw [List.nil_append] at hO1
  obtain ⟨g, cg, rfl, hg0, hg1, hlc, hcm, -, -⟩ := hO1.head (by omega)
  rw [hl] at hlc ⊢
  have hb1 : Below w.heap.size w w1 := ((Below.refl _ _).alloc (Nat.le_refl _) _).trans hs1
  have hpl := Lib.hid (fun j (hj : j < (places n).length) => (places_get hj).1)
  have hpn := places_length n
  have hwn := wt_le n
  have hP := fun w => placesOf_any (n : Int) w (by omega) (by omega)
  simp only [Int.toNat_natCast] at hP
  generalize hps : places n = ps at *
  have HPS := Lib.hid hps
  rw [← hpn] at hwn
  clear hps
  clear hpn
  go_wp2_with fail
  refine (hP _).mono ?_
  rintro e w2 ⟨v2, rfl, hO2, hs2⟩
  obtain ⟨a2, c2, rfl, hR2, hl2, hc2⟩ := hO2.shapeN
  have hL0 : (ps.length : Int) ≤ 24 := by omega
  have hb2 : Below w.heap.size w w2 := hb1.trans (hs2.mono hb1.size)
  have hO1' := hO1.kept hs2
  rw [hl] at hO1'
  have hsz2 := hs2.size
  go_wp2_with fail
  go_loopw [14] (fun x wr => ∃ k : Nat, k ≤ ps.length ∧ x = .int .i64 (k : Int) ∧ Owns w.heap.size wr (.slice (some ⟨g, 0, none⟩) 24 cg) (flipL l (ps.take k)) ∧ w2.grownBy wr (some g) ∧ Below w.heap.size w wr)
    (fun x _ => (ps.length - (intOf x).toNat))
  case atStart => exact ⟨0, by omega, rfl, hO1', World.grownBy.mk rfl rfl rfl (Nat.le_refl _) (fun _ _ _ => rfl), hb2⟩
  case round =>
    obtain ⟨k, hk, rfl, hO, hgr, hbel⟩ := hrel
    have hlen := flipL_length l (ps.take k)
    by_cases hlt : k < ps.length
    · obtain ⟨b, off, ha, hb, hc⟩ := hR2 k hlt
      subst ha
      have hbg := (hO2.lt b rfl).1
      have hcw : wr.cell? ⟨b, off + k, none⟩ = some (.int .i64 ((ps.getD k 0 : Nat) : Int)) := by
        rw [World.cell?_of_block (w := w2) (hgr.block b hb (by simp; omega))]
        exact hc
      have hp := hpl.out k hlt
      have hst := flipL_snoc l (ps.take k) (ps.getD k 0)
      rw [show List.take k ps ++ [ps.getD k 0] = ps.take (k + 1) by rw [List.take_succ_eq_append_getElem hlt]; simp [List.getD, hlt]] at hst
      have e : ps[k] = ps.getD k 0 := by simp [List.getD, hlt]
      rw [e] at hp
      have Hst := Lib.hid hst
      clear hst hc e
      have hki : (k : Int) < (ps.length : Int) := by omega
      generalize ps.getD k 0 = p at *
      obtain ⟨hcp, hfp⟩ := hO.at p (by omega)
      have hbd := Hbd.out (ps.take k) p
      generalize (flipL l (ps.take k)).getD p 0 = y at *
      have hO' := hO.store p (-y)
      rw [← Hst.out] at hO'
      have HO := Lib.hid hO'
      clear hO' hO hlen Hst
      have hpi : (p : Int) < 24 := by omega
      go_wp2_with fail
      go_roundw
      case rel => exact ⟨k + 1, by omega, by go_num, HO.out.1, grown_trans' hgr HO.out.2, hbel.setCell (p := ⟨g, p, none⟩) hg0 _⟩
      case measure => simp [intOf]; omega
    · go_wp2
      go_ret
      obtain rfl : k = ps.length := by omega
      rw [List.take_length] at hO
      exact ⟨_, rfl, by rw [HPS.out]; exact hO, hbel⟩

/-- May LatticeFlip answer? -/
def flipOk (l : List Int) (n : Int) : Bool := vecOk l && inB n 0 16777215

theorem specLatticeFlip_no (a : Option Addr) (cap : Nat) (l : List Int) (n : Int) (w : World) (hl : l.length ≤ 9223372036854775807) (hr : Reads .i64 w a l) (h : flipOk l n = false) :
    Calls Try.prog 43 #[.slice a l.length cap, .int .i64 n] w fun e w' => ∃ v, e = .returned (.tuple #[v, .bool false]) ∧ Owns w.heap.size w' v [] ∧ Below w.heap.size w w' := by
  unfold flipOk at h
  go_enter Try.func43, Try.ntmps43
  go_wp2_with fail
  refine (specVectorValid_any _ _ _ _ hl hr).mono ?_
  rintro e w' ⟨rfl, rfl⟩
  cases h1 : vecOk l
  · go_wp2_with fail
    go_ret2
    exact ⟨_, rfl, Owns.empty w (Nat.le_refl _), (Below.refl _ _).alloc (Nat.le_refl _) _⟩
  · rw [h1, Bool.true_and] at h
    go_wp2_with fail
    refine (specWordValid_any _ _).mono ?_
    rintro e w' ⟨rfl, rfl⟩
    go_wp2_with fail
    go_ret2
    exact ⟨_, rfl, Owns.empty w (Nat.le_refl _), (Below.refl _ _).alloc (Nat.le_refl _) _⟩

theorem implLatticeFlip_no (a : Option Addr) (cap : Nat) (l : List Int) (n : Int) (w : World) (hl : l.length ≤ 9223372036854775807) (hr : Reads .i64 w a l) (h : flipOk l n = false) :
    Calls Try.prog 41 #[.slice a l.length cap, .int .i64 n] w fun e w' => ∃ v, e = .returned (.tuple #[v, .bool false]) ∧ Owns w.heap.size w' v [] ∧ Below w.heap.size w w' := by
  unfold flipOk at h
  go_enter Try.func41, Try.ntmps41
  go_wp2_with fail
  refine (implVectorValid_any _ _ _ _ hl hr).mono ?_
  rintro e w' ⟨rfl, rfl⟩
  cases h1 : vecOk l
  · go_wp2_with fail
    go_ret2
    exact ⟨_, rfl, Owns.empty w (Nat.le_refl _), (Below.refl _ _).alloc (Nat.le_refl _) _⟩
  · rw [h1, Bool.true_and] at h
    go_wp2_with fail
    refine (implWordValid_any _ _).mono ?_
    rintro e w' ⟨rfl, rfl⟩
    go_wp2_with fail
    go_ret2
    exact ⟨_, rfl, Owns.empty w (Nat.le_refl _), (Below.refl _ _).alloc (Nat.le_refl _) _⟩

theorem vecOk_facts {l : List Int} (h : vecOk l = true) : l.length = 24 ∧ ∀ i, -100000 ≤ l.getD i 0 ∧ l.getD i 0 ≤ 100000 := by
  unfold vecOk at h
  rw [Bool.and_eq_true, List.all_eq_true, beq_iff_eq] at h
  refine ⟨h.2, fun i => ?_⟩
  by_cases hi : i < l.length
  · have := h.1 _ (List.getElem_mem hi)
    obtain ⟨h0, h1⟩ := inB_iff.1 this
    simp only [List.getD, List.getElem?_eq_getElem hi, Option.getD_some]
    exact ⟨h0, h1⟩
  · simp [List.getD, hi]

theorem specLatticeFlip_ok (a : Option Addr) (cap : Nat) (l : List Int) (n : Int) (w : World) (hr : Reads .i64 w a l) (h : flipOk l n = true) :
    Calls Try.prog 43 #[.slice a l.length cap, .int .i64 n] w fun e w' => ∃ v, e = .returned (.tuple #[v, .bool true]) ∧ Owns w.heap.size w' v (flipV l n.toNat) ∧ Below w.heap.size w w' := by
  unfold flipOk at h
  rw [Bool.and_eq_true] at h
  obtain ⟨h1, h2⟩ := h
  obtain ⟨n0, n1⟩ := inB_iff.1 h2
  obtain ⟨hl, hbd⟩ := vecOk_facts h1
  have hle : l.length ≤ 9223372036854775807 := by omega
  have C1 := Lib.hid (specVectorValid_any a cap l w hle hr)
  have C2 := Lib.hid (l9Flip_any a cap l n w hl hbd hr n0 n1)
  rw [h1, hl] at C1
  rw [hl]
  clear hl hbd hle h1
  go_enter Try.func43, Try.ntmps43
  go_wp2_with fail
  refine (C1.out).mono ?_
  rintro e w' ⟨rfl, rfl⟩
  go_wp2_with fail
  refine (specWordValid_any _ _).mono ?_
  rintro e w' ⟨rfl, rfl⟩
  go_wp2_with fail
  refine C2.out.mono ?_
  rintro e w2 ⟨v2, rfl, hO2, hs2⟩
  go_wp2_with fail
  go_ret2
  exact ⟨_, rfl, hO2, hs2⟩

theorem implLatticeFlip_ok (a : Option Addr) (cap : Nat) (l : List Int) (n : Int) (w : World) (hr : Reads .i64 w a l) (h : flipOk l n = true) :
    Calls Try.prog 41 #[.slice a l.length cap, .int .i64 n] w fun e w' => ∃ v, e = .returned (.tuple #[v, .bool true]) ∧ Owns w.heap.size w' v (flipV l n.toNat) ∧ Below w.heap.size w w' := by
  unfold flipOk at h
  rw [Bool.and_eq_true] at h
  obtain ⟨h1, h2⟩ := h
  obtain ⟨n0, n1⟩ := inB_iff.1 h2
  obtain ⟨hl, hbd⟩ := vecOk_facts h1
  have hle : l.length ≤ 9223372036854775807 := by omega
  have C1 := Lib.hid (implVectorValid_any a cap l w hle hr)
  have C2 := Lib.hid (flipped_any a cap l n w hl hbd hr n0 n1)
  rw [h1, hl] at C1
  rw [hl]
  clear hl hbd hle h1
  go_enter Try.func41, Try.ntmps41
  go_wp2_with fail
  refine (C1.out).mono ?_
  rintro e w' ⟨rfl, rfl⟩
  go_wp2_with fail
  refine (implWordValid_any _ _).mono ?_
  rintro e w' ⟨rfl, rfl⟩
  go_wp2_with fail
  refine C2.out.mono ?_
  rintro e w2 ⟨v2, rfl, hO2, hs2⟩
  go_wp2_with fail
  go_ret2
  exact ⟨_, rfl, hO2, hs2⟩

end Go.Proofs.Ythbgmmjgenkjpaa
