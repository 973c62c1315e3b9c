/- Contracts of PermTimes, PermTurned and PermFixed. -/
import Derived.Test.YteedbejlbjfkgaaGreatWMw
import Derived.Test.YteedbejlbjfkgaaGreatPl
import Derived.Test.YteedbejlbjfkgaaGreatMk
set_option linter.unusedVariables false
namespace Go.Proofs.YteedbejlbjfkgaaGreat
open Go.RowKit Res

theorem tmL_perm {p q : List Int} (hp : permOk p = true) (hq : permOk q = true) : permOk (tmL p q) = true :=
  (permOk_iff _).2 ⟨tmTo_length _ _ _, tmL_ok ((permOk_iff p).1 hp).2 ((permOk_iff q).1 hq).2⟩
theorem tnL_perm {p : List Int} (hp : permOk p = true) : permOk (tnL p) = true :=
  (permOk_iff _).2 ⟨tnTo_length _ _, tnL_ok ((permOk_iff p).1 hp).1 ((permOk_iff p).1 hp).2⟩

theorem implPermTurned_no (a : Option Addr) (cap : Nat) (p : List Int) (w : World) (hl : p.length ≤ 9223372036854775807) (hr : Reads .i64 w a p) (h : permOk p = false) :
    Calls Tryz.prog 8 #[.slice a p.length cap] w fun e w' => ∃ v, e = .returned (.tuple #[v, .bool false]) ∧ Owns w.heap.size w' v [] ∧ Below w.heap.size w w' := by
  have C1 := Lib.hid (implPermValid_any a cap p w hl hr)
  rw [h] at C1
  clear h
  go_enter Tryz.func8, Tryz.ntmps8
  go_wp2_with fail
  refine (C1.out).mono ?_
  rintro e w' ⟨rfl, rfl⟩
  go_wp2_with fail
  go_ret2
  exact ⟨_, rfl, Owns.empty w (Nat.le_refl _), (Below.refl _ _).alloc (Nat.le_refl _) _⟩
theorem implPermTurned_ok (a : Option Addr) (cap : Nat) (p : List Int) (w : World) (hr : Reads .i64 w a p) (h : permOk p = true) :
    Calls Tryz.prog 8 #[.slice a p.length cap] w fun e w' => ∃ v, e = .returned (.tuple #[v, .bool true]) ∧ Owns w.heap.size w' v (tnL p) ∧ Below w.heap.size w w' := by
  obtain ⟨hl, hok⟩ := permOk_ok h
  have C1 := Lib.hid (implPermValid_any a cap p w (by omega) hr)
  rw [h, hl] at C1
  rw [hl]
  have HL := Lib.hid hl
  have HOK := Lib.hid hok
  clear h hl hok
  go_enter Tryz.func8, Tryz.ntmps8
  go_wp2_with fail
  refine (C1.out).mono ?_
  rintro e w' ⟨rfl, rfl⟩
  go_wp2_with (first | (at_make; refine wpList_mk rfl _ _ rfl w.heap.size 24 rfl rfl rfl rfl (by omega) (by omega) ?_; intro w1 hO1 hs1 hz1) | fail)
  go_loopw [14] (fun x wr => ∃ k : Nat, k ≤ 24 ∧ x = .int .i64 (k : Int) ∧ Owns w.heap.size wr (.slice (some ⟨w.heap.size, 0, none⟩) 24 24) (tnTo p k) ∧ Below w.heap.size w wr)
    (fun x _ => (24 - (intOf x).toNat))
  case atStart => exact ⟨0, by omega, rfl, hO1, hs1⟩
  case round =>
    obtain ⟨k, hk, rfl, hO, hbel⟩ := hrel
    have hlen := tnTo_length p k
    by_cases hlt : k < 24
    · have hki : (k : Int) < 24 := by omega
      obtain ⟨b, off, ha, hb, hc⟩ := hr k (by rw [HL.out]; exact hlt)
      subst ha
      have hc' : wr.cell? ⟨b, off + k, none⟩ = some (.int .i64 (p.getD k 0)) := by rw [hbel.cell (p := ⟨b, off + k, none⟩) hb]; exact hc
      rw [goes_get HOK.out hlt] at hc'
      have hg := goes_lt HOK.out hlt
      have D : Hid (tnTo p (k + 1) = (tnTo p k).set (goes p k) (k : Int)) := Lib.hid rfl
      clear hc
      generalize goes p k = q at *
      obtain ⟨hcp, hfp⟩ := hO.at q (by omega)
      have hqi : (q : Int) < 24 := by omega
      have hO' := hO.store q (k : Int)
      rw [← D.out] at hO'
      have HO := Lib.hid hO'
      clear hO' hO hlen D
      go_wp2_with fail
      go_roundw
      case rel => exact ⟨k + 1, by omega, by go_num, HO.out.1, hbel.setCell (p := ⟨w.heap.size, q, none⟩) (Nat.le_refl _) _⟩
      case measure => simp [intOf]; omega
    · go_wp2
      go_ret2
      obtain rfl : k = 24 := by omega
      exact ⟨_, rfl, hO, hbel⟩

end Go.Proofs.YteedbejlbjfkgaaGreat
