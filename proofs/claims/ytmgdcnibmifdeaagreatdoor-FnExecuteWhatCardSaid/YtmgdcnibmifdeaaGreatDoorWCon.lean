/- Contracts of become and listText. -/
import Derived.Test.YtmgdcnibmifdeaaGreatDoorWGen
import Derived.Test.YtmgdcnibmifdeaaGreatDoorWMark
set_option linter.unusedVariables false
namespace Go.Proofs.YtmgdcnibmifdeaaGreatDoor
open Go.RowKit Res

/-- The console in block b holds the word n. -/
def Con (b n : Nat) (w : World) : Prop := w.heap[b]? = some (.cells #[.int .i64 (n : Int)] 40 (0, 0))
theorem Con.cell {b n : Nat} {w : World} (h : Con b n w) : w.cell? ⟨b, 0, none⟩ = some (.int .i64 (n : Int)) := by
  have h : w.heap[b]? = _ := h
  simp [World.cell?, h]
theorem Con.frozen {b n : Nat} {w : World} (h : Con b n w) : w.frozen? ⟨b, 0, none⟩ = false := by
  have h : w.heap[b]? = _ := h
  simp [World.frozen?, h]
theorem Con.lt {b n : Nat} {w : World} (h : Con b n w) : b < w.heap.size := (Array.getElem?_eq_some_iff.1 h).1
theorem Con.store {b n : Nat} {w : World} (h : Con b n w) (m : Nat) : Con b m (w.setCell ⟨b, 0, none⟩ (.int .i64 (m : Int))) ∧ w.grownBy (w.setCell ⟨b, 0, none⟩ (.int .i64 (m : Int))) (some b) := by
  have h0 : w.heap[b]? = _ := h
  refine ⟨?_, ⟨rfl, rfl, rfl, by simp [World.setCell], fun k _ hk => Below.heap_setCell _ _ _ _ (fun e => hk (by simp [e]))⟩⟩
  unfold Con
  simp [World.setCell, Array.getElem?_modify, h0]
theorem Con.kept {b n : Nat} {w w' : World} (h : Con b n w) (hb : Below w.heap.size w w') : Con b n w' := by
  unfold Con
  rw [hb.block b h.lt]
  exact h
theorem become_any (b n : Nat) (m : Int) (ok : Bool) (w : World) (hC : Con b n w) (hm : ok = true → 0 ≤ m) :
    Calls Tryz.prog 56 #[.pointer (some ⟨b, 0, none⟩), .int .i64 m, .bool ok] w fun e w' => e = .returned (.tuple #[.string ⟨#[111, 107]⟩, .bool ok]) ∧ Con b (if ok then m.toNat else n) w' ∧ w.grownBy w' (some b) := by
  have hc := hC.cell
  have hf := hC.frozen
  cases ok
  · go_enter Tryz.func56, Tryz.ntmps56
    go_wp2
    go_ret2
    exact ⟨rfl, hC, ⟨rfl, rfl, rfl, Nat.le_refl _, fun _ _ _ => rfl⟩⟩
  · obtain ⟨m, rfl⟩ := Int.eq_ofNat_of_zero_le (hm rfl)
    obtain ⟨h1, h2⟩ := hC.store m
    go_enter Tryz.func56, Tryz.ntmps56
    go_wp2
    go_ret2
    exact ⟨rfl, h1, h2⟩

theorem ItoaD_any (n : Nat) (hn : n ≤ 9223372036854775807) (w : World) (hG : Gl w) :
    Calls Tryz.prog 36 #[.int .i64 (n : Int)] w fun e w' => e = .returned (.string ⟨(dec n).toArray⟩) ∧ Below w.heap.size w w' := Itoa_any n hn w hG
/-- Numbers as texts, joined. -/
def joinT (l : List Nat) : List UInt8 := Go.Lib.join (l.map dec) [32]
theorem listText_any (a : Option Addr) (cap : Nat) (l : List Nat) (ok : Bool) (w : World) (hr : Reads .i64 w a (ints l)) (hl : l.length ≤ 5000) (hb : ∀ x, x ∈ l → x ≤ 100000000) (hG : Gl w)
    (hlen : (joinT l).length ≤ 1000000000) :
    Calls Tryz.prog 61 #[.slice a l.length cap, .bool ok] w fun e w' => e = .returned (.tuple #[.string ⟨(joinT l).toArray⟩, .bool ok]) ∧ Below w.heap.size w w' := by
  have HJ : Hid (joinT l = Go.Lib.join (l.map dec) [32]) := Lib.hid rfl
  have HTK : Hid (∀ k (h : k < l.length), (l.take (k + 1)).map dec = (l.take k).map dec ++ [dec (l.getD k 0)]) := Lib.hid (fun k h => by
    rw [List.take_succ_eq_append_getElem h, List.map_append]
    simp [List.getD, h])
  have HB : Hid (∀ k (h : k < l.length), l.getD k 0 ≤ 100000000) := Lib.hid (fun k h => hb _ (by simp [List.getD, h]))
  have HLN := Lib.hid hl
  have hlI : (l.length : Int) ≤ 5000 := by omega
  have HLEN := Lib.hid hlen
  have hil := ints_length l
  clear hb hlen hl
  generalize joinT l = J at *
  go_enter Tryz.func61, Tryz.ntmps61
  go_wp2_with fail
  go_loopw [6, 12] (fun v x wr => ∃ k : Nat, k ≤ l.length ∧ x = .int .i64 (k : Int) ∧ OwnsV 9 w.heap.size wr v (strs ((l.take k).map dec)) ∧ Below w.heap.size w wr)
    (fun _ x _ => (l.length - (intOf x).toNat))
  case atStart => exact ⟨0, by omega, rfl, OwnsV.empty w (Nat.le_refl _), (Below.refl _ _).alloc (Nat.le_refl _) _⟩
  case round =>
    obtain ⟨k, hk, rfl, hO, hbel⟩ := hrel
    have hsz := hbel.size
    by_cases hlt : k < l.length
    · have hki : (k : Int) < (l.length : Int) := by omega
      obtain ⟨b, off, ha, hbb, hc⟩ := (hr.kept hbel) k (by rw [hil]; exact hlt)
      subst ha
      rw [ints_get] at hc
      have hv := HB.out k hlt
      have D := Lib.hid (HTK.out k hlt)
      have CI := Lib.hid (fun w hG => ItoaD_any (l.getD k 0) (by omega) w hG)
      have hG1 := hG.kept hbel
      have hsl : (strs ((l.take k).map dec)).length ≤ 1000000 := by rw [strs_length, List.length_map, List.length_take]; have := HLN.out; omega
      have HSL := Lib.hid hsl
      clear hv hsl
      generalize dec (l.getD k 0) = dk at *
      generalize l.getD k 0 = y at *
      go_wp2_with fail
      refine (CI.out _ hG1).mono ?_
      rintro e w2 ⟨rfl, hs2⟩
      have hb2 := hbel.trans (hs2.mono hsz)
      have hO2 := hO.kept hs2
      have hsz2 := hb2.size
      go_wp2_with (first | (at_builtin; refine wpList_appV infoStr rfl (by decide) Tryz.underlying44 rfl _ _ rfl w.heap.size _ rfl hO2 rfl rfl HSL.out (by omega) ?_; intro v' w3 hO' hbel'))
      go_roundw
      case rel => exact ⟨k + 1, by omega, by go_num, by rw [D.out, strs_append]; exact hO', hb2.trans hbel'⟩
      case measure => simp [intOf]; omega
    · obtain rfl : k = l.length := by omega
      rw [List.take_length] at hO
      by_cases h0 : l.length = 0
      · have hl0 : l = [] := List.eq_nil_of_length_eq_zero h0
        have CJ := Lib.hid (fun a c w => Go.Proofs.Any.strings_Join_none (P := Tryz.prog) (ρ := libRen) lays156 libX a c ⟨#[32]⟩ w)
        have hJ0 : J = [] := by rw [HJ.out, hl0]; rfl
        have hv0 : ∃ a c, u6 = .slice a 0 c := by
          subst hl0
          rcases hO.2 with ⟨rfl, -⟩ | ⟨g, cap, cur, rfl, -⟩
          · exact ⟨_, _, rfl⟩
          · exact ⟨_, _, rfl⟩
        obtain ⟨a6, c6, rfl⟩ := hv0
        clear hlt hk
        go_wp2_with fail
        refine (CJ.out _ _ _).mono ?_
        rintro e w4 ⟨rfl, rfl⟩
        go_wp2_with fail
        go_ret2
        exact ⟨by rw [hJ0]; rfl, hbel⟩
      · have CJ := Lib.hid (JoinV_any _ _ (l.map dec) 32 _ hO (by rw [List.length_map]; omega) (by rw [List.length_map]; have := HLN.out; omega) (by rw [← HJ.out]; exact HLEN.out))
        rw [← HJ.out] at CJ
        clear hlt hk h0
        go_wp2_with fail
        refine CJ.out.mono ?_
        rintro e w4 ⟨rfl, hs4⟩
        go_wp2_with fail
        go_ret2
        exact ⟨rfl, hbel.trans (hs4.mono hsz)⟩

end Go.Proofs.YtmgdcnibmifdeaaGreatDoor
