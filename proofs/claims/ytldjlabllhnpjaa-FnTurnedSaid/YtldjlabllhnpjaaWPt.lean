/- Contracts of PermTimes, PermTurned and PermFixed. -/
import Derived.Test.YtldjlabllhnpjaaWMw
import Derived.Test.YtldjlabllhnpjaaPt
import Derived.Test.YtldjlabllhnpjaaMk
set_option linter.unusedVariables false
namespace Go.Proofs.Ytldjlabllhnpjaa
open Go.RowKit Res

theorem tmL_perm {p q : List Int} (hp : permOk p = true) (hq : permOk q = true) : permOk (tmL p q) = true :=
  (permOk_iff _).2 ⟨tmTo_length _ _ _, tmL_ok ((permOk_iff p).1 hp).2 ((permOk_iff q).1 hq).2⟩
theorem tnL_perm {p : List Int} (hp : permOk p = true) : permOk (tnL p) = true :=
  (permOk_iff _).2 ⟨tnTo_length _ _, tnL_ok ((permOk_iff p).1 hp).1 ((permOk_iff p).1 hp).2⟩

theorem implPermFixed_no (a : Option Addr) (cap : Nat) (p : List Int) (w : World) (hl : p.length ≤ 9223372036854775807) (hr : Reads .i64 w a p) (h : permOk p = false) :
    Calls Try.prog 31 #[.slice a p.length cap] w fun e w' => e = .returned (.tuple #[.int .i64 0, .bool false]) ∧ w = w' := by
  have C1 := Lib.hid (implPermValid_any a cap p w hl hr)
  rw [h] at C1
  clear h
  go_enter Try.func31, Try.ntmps31
  go_wp2_with fail
  refine (C1.out).mono ?_
  rintro e w' ⟨rfl, rfl⟩
  go_wp2_with fail
  go_ret2
  exact ⟨rfl, rfl⟩
theorem implPermFixed_ok (a : Option Addr) (cap : Nat) (p : List Int) (w : World) (hr : Reads .i64 w a p) (h : permOk p = true) :
    Calls Try.prog 31 #[.slice a p.length cap] w fun e w' => e = .returned (.tuple #[.int .i64 (fxW p : Nat), .bool true]) ∧ w = w' := by
  obtain ⟨hl, hok⟩ := permOk_ok h
  have C1 := Lib.hid (implPermValid_any a cap p w (by omega) hr)
  rw [h, hl] at C1
  rw [hl]
  have HL := Lib.hid hl
  have HOK := Lib.hid hok
  clear h hl hok
  go_enter Try.func31, Try.ntmps31
  go_wp2_with fail
  refine (C1.out).mono ?_
  rintro e w' ⟨rfl, rfl⟩
  go_wp2_with fail
  go_loop [4, 12] (fun s x => ∃ k : Nat, k ≤ 24 ∧ x = .int .i64 (k : Int) ∧ s = .int .i64 ((fxTo p k : Nat) : Int))
    (fun _ x => (24 - (intOf x).toNat))
  case atStart => exact ⟨0, by omega, rfl, rfl⟩
  case round =>
    obtain ⟨k, hk, rfl, rfl⟩ := hrel
    by_cases hlt : k < 24
    · have hki : (k : Int) < 24 := by omega
      obtain ⟨b, off, ha, hb, hc⟩ := hr k (by rw [HL.out]; exact hlt)
      subst ha
      have hml : fxTo p k < 16777216 := Nat.lt_of_lt_of_le (fxTo_lt p k) (Nat.pow_le_pow_right (n := 2) (by omega) hk)
      rw [goes_get HOK.out hlt] at hc
      have hbit : (fxTo p k).testBit k = false := by rw [fxTo_bit]; simp
      by_cases hg : goes p k = k
      · have D := Lib.hid (fxTo_hit hg)
        have HOR := Lib.hid (or_step (m := fxTo p k) (k := k) (by omega) (by omega))
        have e0 : ((k : Int) == ((goes p k : Nat) : Int)) = true := by rw [hg]; exact beq_self_eq_true _
        have e1 : (((goes p k : Nat) : Int) == (k : Int)) = true := by rw [hg]; exact beq_self_eq_true _
        clear hg hbit
        generalize goes p k = g at *
        go_wp2_with fail
        go_round
        case rel => exact ⟨k + 1, by omega, by go_num, by rw [D.out]; exact congrArg _ HOR.out⟩
        case measure => simp [intOf]; omega
      · have D := Lib.hid (fxTo_miss hg)
        have e0 : ((k : Int) == ((goes p k : Nat) : Int)) = false := by rw [beq_eq_false_iff_ne]; omega
        have e1 : (((goes p k : Nat) : Int) == (k : Int)) = false := by rw [beq_eq_false_iff_ne]; omega
        clear hg hbit
        generalize goes p k = g at *
        go_wp2_with fail
        go_round
        case rel => exact ⟨k + 1, by omega, by go_num, by rw [D.out]⟩
        case measure => simp [intOf]; omega
    · obtain rfl : k = 24 := by omega
      go_wp2
      go_ret2
      exact ⟨rfl, rfl⟩
theorem implPermTurned_no (a : Option Addr) (cap : Nat) (p : List Int) (w : World) (hl : p.length ≤ 9223372036854775807) (hr : Reads .i64 w a p) (h : permOk p = false) :
    Calls Try.prog 29 #[.slice a p.length cap] w fun e w' => ∃ v, e = .returned (.tuple #[v, .bool false]) ∧ Owns w.heap.size w' v [] ∧ Below w.heap.size w w' := by
  have C1 := Lib.hid (implPermValid_any a cap p w hl hr)
  rw [h] at C1
  clear h
  go_enter Try.func29, Try.ntmps29
  go_wp2_with fail
  refine (C1.out).mono ?_
  rintro e w' ⟨rfl, rfl⟩
  go_wp2_with fail
  go_ret2
  exact ⟨_, rfl, Owns.empty w (Nat.le_refl _), (Below.refl _ _).alloc (Nat.le_refl _) _⟩
theorem implPermTurned_ok (a : Option Addr) (cap : Nat) (p : List Int) (w : World) (hr : Reads .i64 w a p) (h : permOk p = true) :
    Calls Try.prog 29 #[.slice a p.length cap] w fun e w' => ∃ v, e = .returned (.tuple #[v, .bool true]) ∧ Owns w.heap.size w' v (tnL p) ∧ Below w.heap.size w w' := by
  obtain ⟨hl, hok⟩ := permOk_ok h
  have C1 := Lib.hid (implPermValid_any a cap p w (by omega) hr)
  rw [h, hl] at C1
  rw [hl]
  have HL := Lib.hid hl
  have HOK := Lib.hid hok
  clear h hl hok
  go_enter Try.func29, Try.ntmps29
  go_wp2_with fail
  refine (C1.out).mono ?_
  rintro e w' ⟨rfl, rfl⟩
  go_wp2_with (first | (at_make; refine wpList_mk rfl _ _ rfl w.heap.size 24 rfl rfl rfl rfl (by omega) (by omega) ?_; intro w1 hO1 hs1 hz1) | fail)
  go_loopw [14] (fun x wr => ∃ k : Nat, k ≤ 24 ∧ x = .int .i64 (k : Int) ∧ Owns w.heap.size wr (.slice (some ⟨w.heap.size, 0, none⟩) 24 24) (tnTo p k) ∧ Below w.heap.size w wr)
    (fun x _ => (24 - (intOf x).toNat))
  case atStart => exact ⟨0, by omega, rfl, hO1, hs1⟩
  case round =>
    obtain ⟨k, hk, rfl, hO, hbel⟩ := hrel
    have hlen := tnTo_length p k
    by_cases hlt : k < 24
    · have hki : (k : Int) < 24 := by omega
      obtain ⟨b, off, ha, hb, hc⟩ := hr k (by rw [HL.out]; exact hlt)
      subst ha
      have hc' : wr.cell? ⟨b, off + k, none⟩ = some (.int .i64 (p.getD k 0)) := by rw [hbel.cell (p := ⟨b, off + k, none⟩) hb]; exact hc
      rw [goes_get HOK.out hlt] at hc'
      have hg := goes_lt HOK.out hlt
      have D : Hid (tnTo p (k + 1) = (tnTo p k).set (goes p k) (k : Int)) := Lib.hid rfl
      clear hc
      generalize goes p k = q at *
      obtain ⟨hcp, hfp⟩ := hO.at q (by omega)
      have hqi : (q : Int) < 24 := by omega
      have hO' := hO.store q (k : Int)
      rw [← D.out] at hO'
      have HO := Lib.hid hO'
      clear hO' hO hlen D
      go_wp2_with fail
      go_roundw
      case rel => exact ⟨k + 1, by omega, by go_num, HO.out.1, hbel.setCell (p := ⟨w.heap.size, q, none⟩) (Nat.le_refl _) _⟩
      case measure => simp [intOf]; omega
    · go_wp2
      go_ret2
      obtain rfl : k = 24 := by omega
      exact ⟨_, rfl, hO, hbel⟩
theorem implPermTimes_no (a b : Option Addr) (ca cb : Nat) (p q : List Int) (w : World) (hl : p.length ≤ 9223372036854775807) (hm : q.length ≤ 9223372036854775807) (hr : Reads .i64 w a p) (hs : Reads .i64 w b q) (h : (permOk p && permOk q) = false) :
    Calls Try.prog 30 #[.slice a p.length ca, .slice b q.length cb] w fun e w' => ∃ v, e = .returned (.tuple #[v, .bool false]) ∧ Owns w.heap.size w' v [] ∧ Below w.heap.size w w' := by
  have hb1 : Below w.heap.size w (w.alloc (.cells #[] 3)) := (Below.refl _ _).alloc (Nat.le_refl _) _
  have hO0 := Owns.empty w (Nat.le_refl w.heap.size)
  have C1 := Lib.hid (implPermValid_any a ca p _ hl (hr.kept hb1))
  have C2 := Lib.hid (implPermValid_any b cb q _ hm (hs.kept hb1))
  cases h1 : permOk p
  · rw [h1] at C1
    clear h h1
    go_enter Try.func30, Try.ntmps30
    go_wp2_with fail
    refine (C1.out).mono ?_
    rintro e w' ⟨rfl, rfl⟩
    go_wp2_with fail
    go_ret2
    exact ⟨_, rfl, hO0, hb1⟩
  · rw [h1, Bool.true_and] at h
    rw [h1] at C1
    rw [h] at C2
    clear h h1
    go_enter Try.func30, Try.ntmps30
    go_wp2_with fail
    refine (C1.out).mono ?_
    rintro e w' ⟨rfl, rfl⟩
    go_wp2_with fail
    refine (C2.out).mono ?_
    rintro e w' ⟨rfl, rfl⟩
    go_wp2_with fail
    go_ret2
    exact ⟨_, rfl, hO0, hb1⟩
theorem implPermTimes_ok (a b : Option Addr) (ca cb : Nat) (p q : List Int) (w : World) (hr : Reads .i64 w a p) (hs : Reads .i64 w b q) (h1 : permOk p = true) (h2 : permOk q = true) :
    Calls Try.prog 30 #[.slice a p.length ca, .slice b q.length cb] w fun e w' => ∃ v, e = .returned (.tuple #[v, .bool true]) ∧ Owns w.heap.size w' v (tmL p q) ∧ Below w.heap.size w w' := by
  obtain ⟨hl, hok⟩ := permOk_ok h1
  obtain ⟨hm, hok2⟩ := permOk_ok h2
  have hb1 : Below w.heap.size w (w.alloc (.cells #[] 3)) := (Below.refl _ _).alloc (Nat.le_refl _) _
  have hO0 := Owns.empty w (Nat.le_refl w.heap.size)
  have C1 := Lib.hid (implPermValid_any a ca p _ (by omega) (hr.kept hb1))
  have C2 := Lib.hid (implPermValid_any b cb q _ (by omega) (hs.kept hb1))
  rw [h1, hl] at C1
  rw [h2, hm] at C2
  rw [hl, hm]
  have HL := Lib.hid hl
  have HM := Lib.hid hm
  have HOK := Lib.hid hok
  clear h1 h2 hl hm hok hok2
  go_enter Try.func30, Try.ntmps30
  go_wp2_with fail
  refine (C1.out).mono ?_
  rintro e w' ⟨rfl, rfl⟩
  go_wp2_with fail
  refine (C2.out).mono ?_
  rintro e w' ⟨rfl, rfl⟩
  go_wp2_with fail
  go_loopw [6, 21] (fun v x wr => ∃ k : Nat, k ≤ 24 ∧ x = .int .i64 (k : Int) ∧ Owns w.heap.size wr v (tmTo p q k) ∧ Below w.heap.size w wr)
    (fun _ x _ => (24 - (intOf x).toNat))
  case atStart => exact ⟨0, by omega, rfl, hO0, hb1⟩
  case round =>
    obtain ⟨k, hk, rfl, hO, hbel⟩ := hrel
    have hlen := Nat.le_of_eq (tmTo_length p q k)
    have hsz := hbel.size
    by_cases hlt : k < 24
    · have hki : (k : Int) < 24 := by omega
      obtain ⟨x, ox, ha, hbx, hcx⟩ := hr k (by rw [HL.out]; exact hlt)
      have hg := goes_lt HOK.out hlt
      obtain ⟨y, oy, hb, hby, hcy⟩ := hs (goes p k) (by rw [HM.out]; exact hg)
      subst ha
      subst hb
      have hcx' : wr.cell? ⟨x, ox + k, none⟩ = some (.int .i64 (p.getD k 0)) := by rw [hbel.cell (p := ⟨x, ox + k, none⟩) hbx]; exact hcx
      have hcy' : wr.cell? ⟨y, oy + goes p k, none⟩ = some (.int .i64 (q.getD (goes p k) 0)) := by rw [hbel.cell (p := ⟨y, oy + goes p k, none⟩) hby]; exact hcy
      rw [goes_get HOK.out hlt] at hcx'
      have D := Lib.hid (tmTo_succ p q k)
      clear hcx hcy
      generalize goes p k = g at *
      generalize q.getD g 0 = z at *
      have hgi : (g : Int) < 24 := by omega
      go_wp2_with (first | (at_builtin; refine wpList_app rfl _ _ rfl w.heap.size _ rfl hO rfl (by omega) (by omega) ?_; intro v' w1 hO' hbel' hg'))
      go_roundw
      case rel => exact ⟨k + 1, by omega, by go_num, by rw [D.out]; exact hO', hbel.trans hbel'⟩
      case measure => simp [intOf]; omega
    · go_wp2
      go_ret2
      obtain rfl : k = 24 := by omega
      exact ⟨_, rfl, hO, hbel⟩
theorem specPermFixed_no (a : Option Addr) (cap : Nat) (p : List Int) (w : World) (hl : p.length ≤ 9223372036854775807) (hr : Reads .i64 w a p) (h : permOk p = false) :
    Calls Try.prog 56 #[.slice a p.length cap] w fun e w' => e = .returned (.tuple #[.int .i64 0, .bool false]) ∧ w = w' := by
  have C1 := Lib.hid (specPermValid_any a cap p w hl hr)
  rw [h] at C1
  clear h
  go_enter Try.func56, Try.ntmps56
  go_wp2_with fail
  refine (C1.out).mono ?_
  rintro e w' ⟨rfl, rfl⟩
  go_wp2_with fail
  go_ret2
  exact ⟨rfl, rfl⟩
theorem specPermFixed_ok (a : Option Addr) (cap : Nat) (p : List Int) (w : World) (hr : Reads .i64 w a p) (h : permOk p = true) :
    Calls Try.prog 56 #[.slice a p.length cap] w fun e w' => e = .returned (.tuple #[.int .i64 (fxW p : Nat), .bool true]) ∧ w = w' := by
  obtain ⟨hl, hok⟩ := permOk_ok h
  have C1 := Lib.hid (specPermValid_any a cap p w (by omega) hr)
  rw [h, hl] at C1
  rw [hl]
  have HL := Lib.hid hl
  have HOK := Lib.hid hok
  clear h hl hok
  go_enter Try.func56, Try.ntmps56
  go_wp2_with fail
  refine (C1.out).mono ?_
  rintro e w' ⟨rfl, rfl⟩
  go_wp2_with fail
  go_loop [4, 5] (fun s x => ∃ k : Nat, k ≤ 24 ∧ x = .int .i64 (k : Int) ∧ s = .int .i64 ((fxTo p k : Nat) : Int))
    (fun _ x => (24 - (intOf x).toNat))
  case atStart => exact ⟨0, by omega, rfl, rfl⟩
  case round =>
    obtain ⟨k, hk, rfl, rfl⟩ := hrel
    by_cases hlt : k < 24
    · have hki : (k : Int) < 24 := by omega
      obtain ⟨b, off, ha, hb, hc⟩ := hr k (by rw [HL.out]; exact hlt)
      subst ha
      have hml : fxTo p k < 16777216 := Nat.lt_of_lt_of_le (fxTo_lt p k) (Nat.pow_le_pow_right (n := 2) (by omega) hk)
      rw [goes_get HOK.out hlt] at hc
      have hbit : (fxTo p k).testBit k = false := by rw [fxTo_bit]; simp
      by_cases hg : goes p k = k
      · have D := Lib.hid (fxTo_hit hg)
        have HOR := Lib.hid ((add_step (m := fxTo p k) (k := k) (by omega) (by omega)).trans (congrArg (Nat.cast : Nat → Int) (add_bit hbit)))
        have e0 : ((k : Int) == ((goes p k : Nat) : Int)) = true := by rw [hg]; exact beq_self_eq_true _
        have e1 : (((goes p k : Nat) : Int) == (k : Int)) = true := by rw [hg]; exact beq_self_eq_true _
        clear hg hbit
        generalize goes p k = g at *
        go_wp2_with fail
        go_round
        case rel => exact ⟨k + 1, by omega, by go_num, by rw [D.out]; exact congrArg _ HOR.out⟩
        case measure => simp [intOf]; omega
      · have D := Lib.hid (fxTo_miss hg)
        have e0 : ((k : Int) == ((goes p k : Nat) : Int)) = false := by rw [beq_eq_false_iff_ne]; omega
        have e1 : (((goes p k : Nat) : Int) == (k : Int)) = false := by rw [beq_eq_false_iff_ne]; omega
        clear hg hbit
        generalize goes p k = g at *
        go_wp2_with fail
        go_round
        case rel => exact ⟨k + 1, by omega, by go_num, by rw [D.out]⟩
        case measure => simp [intOf]; omega
    · obtain rfl : k = 24 := by omega
      go_wp2
      go_ret2
      exact ⟨rfl, rfl⟩
theorem specPermTurned_no (a : Option Addr) (cap : Nat) (p : List Int) (w : World) (hl : p.length ≤ 9223372036854775807) (hr : Reads .i64 w a p) (h : permOk p = false) :
    Calls Try.prog 54 #[.slice a p.length cap] w fun e w' => ∃ v, e = .returned (.tuple #[v, .bool false]) ∧ Owns w.heap.size w' v [] ∧ Below w.heap.size w w' := by
  have C1 := Lib.hid (specPermValid_any a cap p w hl hr)
  rw [h] at C1
  clear h
  go_enter Try.func54, Try.ntmps54
  go_wp2_with fail
  refine (C1.out).mono ?_
  rintro e w' ⟨rfl, rfl⟩
  go_wp2_with fail
  go_ret2
  exact ⟨_, rfl, Owns.empty w (Nat.le_refl _), (Below.refl _ _).alloc (Nat.le_refl _) _⟩
theorem specPermTurned_ok (a : Option Addr) (cap : Nat) (p : List Int) (w : World) (hr : Reads .i64 w a p) (h : permOk p = true) :
    Calls Try.prog 54 #[.slice a p.length cap] w fun e w' => ∃ v, e = .returned (.tuple #[v, .bool true]) ∧ Owns w.heap.size w' v (tnL p) ∧ Below w.heap.size w w' := by
  obtain ⟨hl, hok⟩ := permOk_ok h
  have C1 := Lib.hid (specPermValid_any a cap p w (by omega) hr)
  rw [h, hl] at C1
  rw [hl]
  have HL := Lib.hid hl
  have HOK := Lib.hid hok
  clear h hl hok
  go_enter Try.func54, Try.ntmps54
  go_wp2_with fail
  refine (C1.out).mono ?_
  rintro e w' ⟨rfl, rfl⟩
  go_wp2_with (first | (at_make; refine wpList_mk rfl _ _ rfl w.heap.size 24 rfl rfl rfl rfl (by omega) (by omega) ?_; intro w1 hO1 hs1 hz1) | fail)
  go_loopw [5] (fun x wr => ∃ k : Nat, k ≤ 24 ∧ x = .int .i64 (k : Int) ∧ Owns w.heap.size wr (.slice (some ⟨w.heap.size, 0, none⟩) 24 24) (tnTo p k) ∧ Below w.heap.size w wr)
    (fun x _ => (24 - (intOf x).toNat))
  case atStart => exact ⟨0, by omega, rfl, hO1, hs1⟩
  case round =>
    obtain ⟨k, hk, rfl, hO, hbel⟩ := hrel
    have hlen := tnTo_length p k
    by_cases hlt : k < 24
    · have hki : (k : Int) < 24 := by omega
      obtain ⟨b, off, ha, hb, hc⟩ := hr k (by rw [HL.out]; exact hlt)
      subst ha
      have hc' : wr.cell? ⟨b, off + k, none⟩ = some (.int .i64 (p.getD k 0)) := by rw [hbel.cell (p := ⟨b, off + k, none⟩) hb]; exact hc
      rw [goes_get HOK.out hlt] at hc'
      have hg := goes_lt HOK.out hlt
      have D : Hid (tnTo p (k + 1) = (tnTo p k).set (goes p k) (k : Int)) := Lib.hid rfl
      clear hc
      generalize goes p k = q at *
      obtain ⟨hcp, hfp⟩ := hO.at q (by omega)
      have hqi : (q : Int) < 24 := by omega
      have hO' := hO.store q (k : Int)
      rw [← D.out] at hO'
      have HO := Lib.hid hO'
      clear hO' hO hlen D
      go_wp2_with fail
      go_roundw
      case rel => exact ⟨k + 1, by omega, by go_num, HO.out.1, hbel.setCell (p := ⟨w.heap.size, q, none⟩) (Nat.le_refl _) _⟩
      case measure => simp [intOf]; omega
    · go_wp2
      go_ret2
      obtain rfl : k = 24 := by omega
      exact ⟨_, rfl, hO, hbel⟩
theorem specPermTimes_no (a b : Option Addr) (ca cb : Nat) (p q : List Int) (w : World) (hl : p.length ≤ 9223372036854775807) (hm : q.length ≤ 9223372036854775807) (hr : Reads .i64 w a p) (hs : Reads .i64 w b q) (h : (permOk p && permOk q) = false) :
    Calls Try.prog 43 #[.slice a p.length ca, .slice b q.length cb] w fun e w' => ∃ v, e = .returned (.tuple #[v, .bool false]) ∧ Owns w.heap.size w' v [] ∧ Below w.heap.size w w' := by
  have hb1 : Below w.heap.size w (w.alloc (.cells #[] 3)) := (Below.refl _ _).alloc (Nat.le_refl _) _
  have hO0 := Owns.empty w (Nat.le_refl w.heap.size)
  have C1 := Lib.hid (specPermValid_any a ca p _ hl (hr.kept hb1))
  have C2 := Lib.hid (specPermValid_any b cb q _ hm (hs.kept hb1))
  cases h1 : permOk p
  · rw [h1] at C1
    clear h h1
    go_enter Try.func43, Try.ntmps43
    go_wp2_with fail
    refine (C1.out).mono ?_
    rintro e w' ⟨rfl, rfl⟩
    go_wp2_with fail
    go_ret2
    exact ⟨_, rfl, hO0, hb1⟩
  · rw [h1, Bool.true_and] at h
    rw [h1] at C1
    rw [h] at C2
    clear h h1
    go_enter Try.func43, Try.ntmps43
    go_wp2_with fail
    refine (C1.out).mono ?_
    rintro e w' ⟨rfl, rfl⟩
    go_wp2_with fail
    refine (C2.out).mono ?_
    rintro e w' ⟨rfl, rfl⟩
    go_wp2_with fail
    go_ret2
    exact ⟨_, rfl, hO0, hb1⟩
theorem specPermTimes_ok (a b : Option Addr) (ca cb : Nat) (p q : List Int) (w : World) (hr : Reads .i64 w a p) (hs : Reads .i64 w b q) (h1 : permOk p = true) (h2 : permOk q = true) :
    Calls Try.prog 43 #[.slice a p.length ca, .slice b q.length cb] w fun e w' => ∃ v, e = .returned (.tuple #[v, .bool true]) ∧ Owns w.heap.size w' v (tmL p q) ∧ Below w.heap.size w w' := by
  obtain ⟨hl, hok⟩ := permOk_ok h1
  obtain ⟨hm, hok2⟩ := permOk_ok h2
  have hb1 : Below w.heap.size w (w.alloc (.cells #[] 3)) := (Below.refl _ _).alloc (Nat.le_refl _) _
  have hO0 := Owns.empty w (Nat.le_refl w.heap.size)
  have C1 := Lib.hid (specPermValid_any a ca p _ (by omega) (hr.kept hb1))
  have C2 := Lib.hid (specPermValid_any b cb q _ (by omega) (hs.kept hb1))
  rw [h1, hl] at C1
  rw [h2, hm] at C2
  rw [hl, hm]
  have HL := Lib.hid hl
  have HM := Lib.hid hm
  have HOK := Lib.hid hok
  clear h1 h2 hl hm hok hok2
  go_enter Try.func43, Try.ntmps43
  go_wp2_with fail
  refine (C1.out).mono ?_
  rintro e w' ⟨rfl, rfl⟩
  go_wp2_with fail
  refine (C2.out).mono ?_
  rintro e w' ⟨rfl, rfl⟩
  go_wp2_with fail
  go_loopw [6, 7] (fun v x wr => ∃ k : Nat, k ≤ 24 ∧ x = .int .i64 (k : Int) ∧ Owns w.heap.size wr v (tmTo p q k) ∧ Below w.heap.size w wr)
    (fun _ x _ => (24 - (intOf x).toNat))
  case atStart => exact ⟨0, by omega, rfl, hO0, hb1⟩
  case round =>
    obtain ⟨k, hk, rfl, hO, hbel⟩ := hrel
    have hlen := Nat.le_of_eq (tmTo_length p q k)
    have hsz := hbel.size
    by_cases hlt : k < 24
    · have hki : (k : Int) < 24 := by omega
      obtain ⟨x, ox, ha, hbx, hcx⟩ := hr k (by rw [HL.out]; exact hlt)
      have hg := goes_lt HOK.out hlt
      obtain ⟨y, oy, hb, hby, hcy⟩ := hs (goes p k) (by rw [HM.out]; exact hg)
      subst ha
      subst hb
      have hcx' : wr.cell? ⟨x, ox + k, none⟩ = some (.int .i64 (p.getD k 0)) := by rw [hbel.cell (p := ⟨x, ox + k, none⟩) hbx]; exact hcx
      have hcy' : wr.cell? ⟨y, oy + goes p k, none⟩ = some (.int .i64 (q.getD (goes p k) 0)) := by rw [hbel.cell (p := ⟨y, oy + goes p k, none⟩) hby]; exact hcy
      rw [goes_get HOK.out hlt] at hcx'
      have D := Lib.hid (tmTo_succ p q k)
      clear hcx hcy
      generalize goes p k = g at *
      generalize q.getD g 0 = z at *
      have hgi : (g : Int) < 24 := by omega
      go_wp2_with (first | (at_builtin; refine wpList_app rfl _ _ rfl w.heap.size _ rfl hO rfl (by omega) (by omega) ?_; intro v' w1 hO' hbel' hg'))
      go_roundw
      case rel => exact ⟨k + 1, by omega, by go_num, by rw [D.out]; exact hO', hbel.trans hbel'⟩
      case measure => simp [intOf]; omega
    · go_wp2
      go_ret2
      obtain rfl : k = 24 := by omega
      exact ⟨_, rfl, hO, hbel⟩

end Go.Proofs.Ytldjlabllhnpjaa
