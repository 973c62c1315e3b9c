/- Contracts of PermCycles. -/
import Derived.Test.YteedbejlbjfkgaaWMw
import Derived.Test.YteedbejlbjfkgaaCy
import Derived.Test.YteedbejlbjfkgaaMk
import Derived.Test.YteedbejlbjfkgaaWSort
import Derived.Test.YteedbejlbjfkgaaWSrt
import Derived.Test.YteedbejlbjfkgaaWMark
set_option linter.unusedVariables false
namespace Go.Proofs.Yteedbejlbjfkgaa
open Go.RowKit Res

/-- 24 truth values of the call's own, told by a word. -/
def seenL (s : Nat) : List Value := (List.range 24).map fun i => Value.bool (s.testBit i)
def OwnsB (B : Nat) (w : World) (g s : Nat) : Prop := w.ownsRow B 4 1 (.slice (some ⟨g, 0, none⟩) 24 24) 24 (seenL s)
theorem seenL_get {s j : Nat} (hj : j < 24) : (seenL s)[j]? = some (.bool (s.testBit j)) := by
  simp [seenL, hj]
theorem seenL_set (s j : Nat) : (seenL s).set j (.bool true) = seenL (s ||| 2 ^ j) := by
  apply List.ext_getElem?
  intro i
  rw [List.getElem?_set]
  by_cases hi : i < 24
  · rw [seenL_get hi, seenL_get hi, Nat.testBit_or, Nat.testBit_two_pow]
    by_cases e : j = i
    · subst e
      simp [seenL, hi]
    · simp [e]
  · have h1 : (seenL s)[i]? = none := by simp [seenL]; omega
    have h2 : (seenL (s ||| 2 ^ j))[i]? = none := by simp [seenL]; omega
    rw [h1, h2]
    split
    · rw [if_neg (by simp [seenL]; omega)]
    · rfl
theorem OwnsB.at {B g s : Nat} {w : World} (h : OwnsB B w g s) {j : Nat} (hj : j < 24) : w.cell? ⟨g, j, none⟩ = some (.bool (s.testBit j)) ∧ w.frozen? ⟨g, j, none⟩ = false := by
  refine ⟨?_, World.ownsRow.frozenAt h j⟩
  rw [World.ownsRow.cellAt h j (by omega), seenL_get hj]
theorem OwnsB.store {B g s : Nat} {w : World} (h : OwnsB B w g s) (j : Nat) : OwnsB B (w.setCell ⟨g, j, none⟩ (.bool true)) g (s ||| 2 ^ j) ∧ w.grownBy (w.setCell ⟨g, j, none⟩ (.bool true)) (some g) := by
  have h1 := World.ownsRow.stored h j (.bool true)
  rw [seenL_set] at h1
  exact h1
theorem OwnsB.grown {B g s : Nat} {w w' : World} {r : Option Nat} (h : OwnsB B w g s) (hg : w.grownBy w' r) (hne : some g ≠ r) : OwnsB B w' g s := World.ownsRow.kept h hg (.inr hne)
theorem OwnsB.ge {B g s : Nat} {w : World} (h : OwnsB B w g s) : B ≤ g ∧ g < w.heap.size := World.ownsRow.lt h g rfl
theorem infoBool : (Try.prog.info? 4).map (fun i => (i.zero, i.size, i.bytes)) = some (some (.bool false), 1, 1) := by kernel_rfl
/-- 'make([]bool, 24)'. -/
theorem wpList_mkB {w : World} {ops : Array Oper} {rest : List Oper} {o : Oper} {a : Act} {Q : Exit → Act → World → Prop} (hgd : o.guard = none) (x y : Operand)
    (ho : o.op = .makeSlice 52 x y) (B : Nat) (hx : a.eval x = .int .i64 24) (hy : a.eval y = .int .i64 24) (hB : B ≤ w.heap.size)
    (h : ∀ w', OwnsB B w' w.heap.size 0 → Below w.heap.size w w' → w.grownBy w' none → w.heap.size < w'.heap.size → wpList Try.prog ops Q rest (a.put o.dst (.slice (some ⟨w.heap.size, 0, none⟩) 24 24)) w') :
    wpList Try.prog ops Q (o :: rest) a w := by
  obtain ⟨i0, hi, hz0, hz1, hz2⟩ := info_parts infoBool
  refine wpList_make_full w hgd x y 52 ho B 4 i0 (.bool false) 1 Try.underlying52 hi hz0 hz1 .i64 .i64 24 24 24 hx hy rfl rfl (by rw [hz2]; omega) (by unfold maxLen; omega) hB ?_
  intro w' hown hgrow
  have hO : OwnsB B w' w.heap.size 0 := by
    have e : seenL 0 = List.replicate 24 (Value.bool false) := by
      unfold seenL
      rw [show (fun i => Value.bool (Nat.testBit 0 i)) = fun _ => Value.bool false from funext (fun i => by rw [Nat.zero_testBit])]
      rfl
    unfold OwnsB
    rw [e]
    simpa [toList_madeCells_one, Value.cells] using hown
  exact h w' hO ((Below.refl _ _).grown hgrow (Nat.le_refl _) (by simp)) hgrow hO.ge.2

theorem implPermCycles_no (a : Option Addr) (cap : Nat) (p : List Int) (w : World) (hl : p.length ≤ 9223372036854775807) (hr : Reads .i64 w a p) (h : permOk p = false) :
    Calls Try.prog 23 #[.slice a p.length cap] w fun e w' => ∃ v, e = .returned (.tuple #[v, .bool false]) ∧ Owns w.heap.size w' v [] ∧ Below w.heap.size w w' := by
  have hb1 : Below w.heap.size w (w.alloc (.cells #[] 3)) := (Below.refl _ _).alloc (Nat.le_refl _) _
  have C1 := Lib.hid (implPermValid_any a cap p _ hl (hr.kept hb1))
  rw [h] at C1
  clear h
  go_enter Try.func23, Try.ntmps23
  go_wp2_with fail
  refine (C1.out).mono ?_
  rintro e w' ⟨rfl, rfl⟩
  go_wp2_with fail
  go_ret2
  exact ⟨_, rfl, Owns.empty w (Nat.le_refl _), hb1⟩
theorem implPermCycles_ok (a : Option Addr) (cap : Nat) (p : List Int) (w : World) (hr : Reads .i64 w a p) (h : permOk p = true) :
    Calls Try.prog 23 #[.slice a p.length cap] w fun e w' => ∃ v, e = .returned (.tuple #[v, .bool true]) ∧ Owns w.heap.size w' v (cyL p) ∧ Below w.heap.size w w' := by
  obtain ⟨hl, hok⟩ := permOk_ok h
  have hb1 : Below w.heap.size w (w.alloc (.cells #[] 3)) := (Below.refl _ _).alloc (Nat.le_refl _) _
  have hO0 := Owns.empty w (Nat.le_refl w.heap.size)
  have C1 := Lib.hid (implPermValid_any a cap p _ (by omega) (hr.kept hb1))
  rw [h, hl] at C1
  rw [hl]
  have HL := Lib.hid hl
  have HOK := Lib.hid hok
  clear h hl hok
  have hszz : (w.alloc (.cells #[] 3)).heap.size = w.heap.size + 1 := by simp
  have HP := Lib.hid (csL_pos p)
  have HY : Hid (cyL p = srt (csL p 24)) := Lib.hid rfl
  generalize cyL p = CY at *
  go_enter Try.func23, Try.ntmps23
  go_wp2_with fail
  refine (C1.out).mono ?_
  rintro e w' ⟨rfl, rfl⟩
  go_wp2_with (first | (at_make; refine wpList_mkB rfl _ _ rfl (w.heap.size + 1) rfl rfl (by simp) ?_; intro w1 hS1 hs1 hgr1 hz1) | fail)
  rw [hszz] at hS1 hs1 hz1
  have hOk0 : Owns w.heap.size w1 (.slice (some ⟨w.heap.size, 0, none⟩) 0 0) [] := hO0.kept (by rw [hszz]; exact hs1)
  have hb2 := hb1.trans (hs1.mono (Nat.le_succ _))
  clear hO0 hgr1 hs1
  go_loopw [4, 17] (fun v x wr => ∃ k : Nat, k ≤ 24 ∧ x = .int .i64 (k : Int) ∧ Owns w.heap.size wr v (csL p k) ∧ OwnsB (w.heap.size + 1) wr (w.heap.size + 1) (csS p k) ∧ v.ownBlock ≠ some (w.heap.size + 1) ∧ Below w.heap.size w wr)
    (fun _ x _ => (24 - (intOf x).toNat))
  case atStart => exact ⟨0, by omega, rfl, hOk0, hS1, by simp [Value.ownBlock], hb2⟩
  case round =>
    obtain ⟨k, hk, rfl, hO, hS, hne, hbel⟩ := hrel
    have hlen := csL_length p k
    have hsz := hbel.size
    by_cases hlt : k < 24
    · have hki : (k : Int) < 24 := by omega
      have D1 : Hid (csS p (k + 1) = snW p (csS p k) k (cyN p (csS p k) k)) := Lib.hid rfl
      have D2 := Lib.hid (@csL_hit p k)
      have D3 := Lib.hid (@csL_miss p k)
      have D4 := Lib.hid (fun n (h1 : frP p (csS p k) k n) h2 => cyN_eq HOK.out hlt h1 h2)
      have D5 := Lib.hid (fun n (h1 : frP p (csS p k) k n) => frP_le HOK.out hlt h1)
      generalize csS p k = S at *
      generalize csL p k = L at *
      have HK := Lib.hid hlt
      clear hlt
      go_wp2_with fail
      go_loopw [7, 8] (fun x y wr => ∃ n : Nat, n ≤ 24 ∧ x = .int .i64 (n : Int) ∧ y = .int .i64 ((itP p k n : Nat) : Int) ∧ frP p S k n ∧ Owns w.heap.size wr u4 L ∧ OwnsB (w.heap.size + 1) wr (w.heap.size + 1) (snW p S k n) ∧ Below w.heap.size w wr)
        (fun x _ _ => (24 - (intOf x).toNat))
      case atStart => exact ⟨0, by omega, rfl, rfl, frP_zero p S k, hO, hS, hbel⟩
      case round =>
        obtain ⟨n, hn, rfl, rfl, hfr, hO2, hS2, hbel2⟩ := hrel
        have hsz2 := hbel2.size
        have hq := itP_lt HOK.out HK.out n
        obtain ⟨hcs, hfz⟩ := hS2.at hq
        have HFR := Lib.hid hfr
        cases hb : (snW p S k n).testBit (itP p k n)
        · rw [hb] at hcs
          obtain ⟨b, off, ha, hbk, hc⟩ := hr (itP p k n) (by rw [HL.out]; exact hq)
          subst ha
          rw [goes_get HOK.out hq] at hc
          have HF := Lib.hid (frP_succ hfr hb)
          have hn1 := D5.out _ HF.out
          obtain ⟨hS3, hgr3⟩ := hS2.store (itP p k n)
          have hbel3 := hbel2.setCell (p := ⟨w.heap.size + 1, itP p k n, none⟩) (Nat.le_succ _) (Value.bool true)
          have hO3 := hO2.grown hgr3 (fun j hj e => hne (by rw [hj, e]))
          have hc' : (wr.setCell ⟨w.heap.size + 1, itP p k n, none⟩ (.bool true)).cell? ⟨b, off + itP p k n, none⟩ = some (.int .i64 ((goes p (itP p k n) : Nat) : Int)) := by rw [hbel3.cell (p := ⟨b, off + itP p k n, none⟩) hbk]; exact hc
          have E1 : Hid (itP p k (n + 1) = goes p (itP p k n)) := Lib.hid rfl
          have E2 : Hid (snW p S k (n + 1) = snW p S k n ||| 2 ^ itP p k n) := Lib.hid rfl
          rw [← E2.out] at hS3
          have HS3 := Lib.hid hS3
          have HO3 := Lib.hid hO3
          clear hS3 hO3 hc hb hS2 hO2 hfr HFR D1 D2 D3 D4 D5 hgr3
          have hqi : ((itP p k n : Nat) : Int) < 24 := by omega
          go_wp2_with fail
          go_roundw
          case rel => exact ⟨n + 1, hn1, by go_num, rfl, HF.out, HO3.out, HS3.out, hbel3⟩
          case measure => simp [intOf]; omega
        · rw [hb] at hcs
          have D4' := Lib.hid (D4.out n hfr hb)
          rw [D4'.out] at D1 D2 D3
          have hqi : ((itP p k n : Nat) : Int) < 24 := by omega
          rw [← D1.out] at hS2
          clear hb hfr HFR D4 D5 D4' hS hO
          by_cases h0 : n = 0
          · have D := Lib.hid (D3.out h0)
            subst h0
            clear D2 D3
            go_wp2_with fail
            go_roundw
            case rel => exact ⟨k + 1, by have := HK.out; omega, by go_num, by rw [D.out]; exact hO2, hS2, hne, hbel2⟩
            case measure => simp [intOf]; have := HK.out; omega
          · have D := Lib.hid (D2.out (by omega))
            have h0i : (0 : Int) < (n : Int) := by omega
            clear D2 D3
            go_wp2_with (first | (at_builtin; refine wpList_app2 rfl _ _ rfl w.heap.size _ rfl hO2 rfl (by omega) (by omega) ?_; intro v' w' hO' hg' hat'))
            go_roundw
            case rel =>
              refine ⟨k + 1, by have := HK.out; omega, by go_num, by rw [D.out]; exact hO', hS2.grown hg' (fun e => hne e.symm), fun e => ?_, hbel2.grown hg' hsz2 (fun q hq => (hO2.lt q hq).1)⟩
              rcases hat' with h | h
              · exact hne (h.symm.trans e)
              · rw [h] at e
                have := hS2.ge.2
                simp at e
                omega
            case measure => simp [intOf]; have := HK.out; omega
    · obtain rfl : k = 24 := by omega
      obtain ⟨g, c, hv, hg1, hg2, hlc, hc1, hc2, -⟩ := hO.head HP.out
      subst hv
      have CS := Lib.hid (sorted_any hO (by omega))
      rw [← HY.out] at CS
      have hlen2 : (csL p 24).length ≤ 24 := hlen
      generalize (csL p 24).length = N at *
      clear hO hc2 hne hS
      go_wp2_with fail
      refine CS.out.mono ?_
      rintro e w2 ⟨rfl, hO2, hgr⟩
      go_wp2_with fail
      go_ret2
      exact ⟨_, rfl, hO2, hbel.grown hgr hsz (fun q hq => by simp at hq; omega)⟩
theorem l7Cycles_ok (a : Option Addr) (cap : Nat) (p : List Int) (w : World) (hr : Reads .i64 w a p) (h : permOk p = true) :
    Calls Try.prog 48 #[.slice a p.length cap] w fun e w' => ∃ v, e = .returned v ∧ Owns w.heap.size w' v (cyL p) ∧ Below w.heap.size w w' := by
  obtain ⟨hl, hok⟩ := permOk_ok h
  have hb1 : Below w.heap.size w (w.alloc (.cells #[] 3)) := (Below.refl _ _).alloc (Nat.le_refl _) _
  have hO0 := Owns.empty w (Nat.le_refl w.heap.size)
  rw [hl]
  have HL := Lib.hid hl
  have HOK := Lib.hid hok
  clear h hl hok
  have hszz : (w.alloc (.cells #[] 3)).heap.size = w.heap.size + 1 := by simp
  have HP := Lib.hid (csL_pos p)
  have HY : Hid (cyL p = srt (csL p 24)) := Lib.hid rfl
  generalize cyL p = CY at *
  go_enter Try.func48, Try.ntmps48
  go_wp2_with (first | (at_make; refine wpList_mkB rfl _ _ rfl (w.heap.size + 1) rfl rfl (by simp) ?_; intro w1 hS1 hs1 hgr1 hz1) | fail)
  rw [hszz] at hS1 hs1 hz1
  have hOk0 : Owns w.heap.size w1 (.slice (some ⟨w.heap.size, 0, none⟩) 0 0) [] := hO0.kept (by rw [hszz]; exact hs1)
  have hb2 := hb1.trans (hs1.mono (Nat.le_succ _))
  clear hO0 hgr1 hs1
  go_loopw [3, 5] (fun v x wr => ∃ k : Nat, k ≤ 24 ∧ x = .int .i64 (k : Int) ∧ Owns w.heap.size wr v (csL p k) ∧ OwnsB (w.heap.size + 1) wr (w.heap.size + 1) (csS p k) ∧ v.ownBlock ≠ some (w.heap.size + 1) ∧ Below w.heap.size w wr)
    (fun _ x _ => (24 - (intOf x).toNat))
  case atStart => exact ⟨0, by omega, rfl, hOk0, hS1, by simp [Value.ownBlock], hb2⟩
  case round =>
    obtain ⟨k, hk, rfl, hO, hS, hne, hbel⟩ := hrel
    have hlen := csL_length p k
    have hsz := hbel.size
    by_cases hlt : k < 24
    · have hki : (k : Int) < 24 := by omega
      have D1 : Hid (csS p (k + 1) = snW p (csS p k) k (cyN p (csS p k) k)) := Lib.hid rfl
      have D2 := Lib.hid (@csL_hit p k)
      have D3 := Lib.hid (@csL_miss p k)
      have D4 := Lib.hid (fun n (h1 : frP p (csS p k) k n) h2 => cyN_eq HOK.out hlt h1 h2)
      have D5 := Lib.hid (fun n (h1 : frP p (csS p k) k n) => frP_le HOK.out hlt h1)
      generalize csS p k = S at *
      generalize csL p k = L at *
      have HK := Lib.hid hlt
      clear hlt
      go_wp2_with fail
      go_loopw [6, 7] (fun x y wr => ∃ n : Nat, n ≤ 24 ∧ x = .int .i64 (n : Int) ∧ y = .int .i64 ((itP p k n : Nat) : Int) ∧ frP p S k n ∧ Owns w.heap.size wr u3 L ∧ OwnsB (w.heap.size + 1) wr (w.heap.size + 1) (snW p S k n) ∧ Below w.heap.size w wr)
        (fun x _ _ => (24 - (intOf x).toNat))
      case atStart => exact ⟨0, by omega, rfl, rfl, frP_zero p S k, hO, hS, hbel⟩
      case round =>
        obtain ⟨n, hn, rfl, rfl, hfr, hO2, hS2, hbel2⟩ := hrel
        have hsz2 := hbel2.size
        have hq := itP_lt HOK.out HK.out n
        obtain ⟨hcs, hfz⟩ := hS2.at hq
        have HFR := Lib.hid hfr
        cases hb : (snW p S k n).testBit (itP p k n)
        · rw [hb] at hcs
          obtain ⟨b, off, ha, hbk, hc⟩ := hr (itP p k n) (by rw [HL.out]; exact hq)
          subst ha
          rw [goes_get HOK.out hq] at hc
          have HF := Lib.hid (frP_succ hfr hb)
          have hn1 := D5.out _ HF.out
          obtain ⟨hS3, hgr3⟩ := hS2.store (itP p k n)
          have hbel3 := hbel2.setCell (p := ⟨w.heap.size + 1, itP p k n, none⟩) (Nat.le_succ _) (Value.bool true)
          have hO3 := hO2.grown hgr3 (fun j hj e => hne (by rw [hj, e]))
          have hc' : (wr.setCell ⟨w.heap.size + 1, itP p k n, none⟩ (.bool true)).cell? ⟨b, off + itP p k n, none⟩ = some (.int .i64 ((goes p (itP p k n) : Nat) : Int)) := by rw [hbel3.cell (p := ⟨b, off + itP p k n, none⟩) hbk]; exact hc
          have E1 : Hid (itP p k (n + 1) = goes p (itP p k n)) := Lib.hid rfl
          have E2 : Hid (snW p S k (n + 1) = snW p S k n ||| 2 ^ itP p k n) := Lib.hid rfl
          rw [← E2.out] at hS3
          have HS3 := Lib.hid hS3
          have HO3 := Lib.hid hO3
          clear hS3 hO3 hc hb hS2 hO2 hfr HFR D1 D2 D3 D4 D5 hgr3
          have hqi : ((itP p k n : Nat) : Int) < 24 := by omega
          go_wp2_with fail
          go_roundw
          case rel => exact ⟨n + 1, hn1, by go_num, rfl, HF.out, HO3.out, HS3.out, hbel3⟩
          case measure => simp [intOf]; omega
        · rw [hb] at hcs
          have D4' := Lib.hid (D4.out n hfr hb)
          rw [D4'.out] at D1 D2 D3
          have hqi : ((itP p k n : Nat) : Int) < 24 := by omega
          rw [← D1.out] at hS2
          clear hb hfr HFR D4 D5 D4' hS hO
          by_cases h0 : n = 0
          · have D := Lib.hid (D3.out h0)
            subst h0
            clear D2 D3
            go_wp2_with fail
            go_roundw
            case rel => exact ⟨k + 1, by have := HK.out; omega, by go_num, by rw [D.out]; exact hO2, hS2, hne, hbel2⟩
            case measure => simp [intOf]; have := HK.out; omega
          · have D := Lib.hid (D2.out (by omega))
            have h0i : (0 : Int) < (n : Int) := by omega
            clear D2 D3
            go_wp2_with (first | (at_builtin; refine wpList_app2 rfl _ _ rfl w.heap.size _ rfl hO2 rfl (by omega) (by omega) ?_; intro v' w' hO' hg' hat'))
            go_roundw
            case rel =>
              refine ⟨k + 1, by have := HK.out; omega, by go_num, by rw [D.out]; exact hO', hS2.grown hg' (fun e => hne e.symm), fun e => ?_, hbel2.grown hg' hsz2 (fun q hq => (hO2.lt q hq).1)⟩
              rcases hat' with h | h
              · exact hne (h.symm.trans e)
              · rw [h] at e
                have := hS2.ge.2
                simp at e
                omega
            case measure => simp [intOf]; have := HK.out; omega
    · obtain rfl : k = 24 := by omega
      obtain ⟨a1, c1, rfl, hR1, hl1, hc1⟩ := hO.shape
      have CS := Lib.hid (l4Sort_any (csL p 24).length a1 c1 (csL p 24) wr rfl (by omega) hl1 hc1 hR1)
      rw [← HY.out] at CS
      have hlen2 : (csL p 24).length ≤ 24 := hlen
      have hsl : CY.length = (csL p 24).length := by rw [HY.out]; exact srt_length _
      have hsh : (csL p 24).length < 2 → csL p 24 = CY := fun h => by rw [HY.out, srt_short h]
      generalize csL p 24 = T at *
      have HT := Lib.hid hsl
      have HU := Lib.hid hsh
      clear hsl hsh HY hS hne
      generalize T.length = N at *
      go_wp2_with fail
      refine CS.out.mono ?_
      rintro e w2 ⟨a2, c2, rfl, hR2, hO2, hO3, hl2, hc2, hs2⟩
      go_wp2_with fail
      go_ret
      refine ⟨_, rfl, ?_, hbel.trans (hs2.mono hsz)⟩
      by_cases h2 : 2 ≤ N
      · exact (hO2 h2).mono hsz
      · obtain ⟨rfl, rfl, rfl⟩ := hO3 (by omega)
        rw [← HU.out (by omega)]
        exact hO

end Go.Proofs.Yteedbejlbjfkgaa
