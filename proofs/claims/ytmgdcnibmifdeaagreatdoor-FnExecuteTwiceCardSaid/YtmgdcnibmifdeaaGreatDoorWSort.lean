/- Contract of the reference's sort by halves. -/
import Derived.Test.YtmgdcnibmifdeaaGreatDoorRd
import Derived.Test.YtmgdcnibmifdeaaGreatDoorSrt
import Derived.BigQuiet
import Derived.Deep.QuietTactic
set_option linter.unusedVariables false
namespace Go.Proofs.YtmgdcnibmifdeaaGreatDoor
open Go.RowKit Res

theorem Reads.take {w : World} {a : Option Addr} {l : List Int} (h : Reads .i64 w a l) (n : Nat) : Reads .i64 w a (l.take n) := by
  intro i hi
  have hi2 : i < n ∧ i < l.length := by rw [List.length_take] at hi; omega
  obtain ⟨b, off, ha, hb, hc⟩ := h i hi2.2
  refine ⟨b, off, ha, hb, ?_⟩
  rw [hc]
  simp [List.getD, hi2.1]
theorem Reads.drop {w : World} {b off : Nat} {l : List Int} (h : Reads .i64 w (some ⟨b, off, none⟩) l) (n : Nat) : Reads .i64 w (some ⟨b, off + n, none⟩) (l.drop n) := by
  intro i hi
  rw [List.length_drop] at hi
  obtain ⟨b', off', ha, hb, hc⟩ := h (n + i) (by omega)
  simp only [Option.some.injEq, Addr.mk.injEq, and_true] at ha
  obtain ⟨rfl, rfl⟩ := ha
  refine ⟨b, off + n, rfl, hb, ?_⟩
  rw [Nat.add_assoc, hc]
  simp [List.getD]

theorem l4Sort_any (n : Nat) : ∀ (a : Option Addr) (cap : Nat) (l : List Int) (w : World), l.length = n → n ≤ 1000000 → n ≤ cap → cap ≤ 9223372036854775807 → Reads .i64 w a l →
    Calls Tryz.prog 147 #[.slice a n cap] w fun e w' => ∃ a' c', e = .returned (.slice a' n c') ∧ Reads .i64 w' a' (srt l) ∧ (2 ≤ n → Owns w.heap.size w' (.slice a' n c') (srt l)) ∧ (n < 2 → a' = a ∧ c' = cap ∧ w' = w) ∧ n ≤ c' ∧ c' ≤ 9223372036854775807 ∧ Below w.heap.size w w' := by
  induction n using Nat.strongRecOn with
  | _ n ih =>
    intro a cap l w hln hn hc hm hr
    by_cases h2 : n < 2
    · have hs := Lib.hid (srt_short (l := l) (by omega))
      have h2i : (n : Int) < 2 := by omega
      go_enter Tryz.func147, Tryz.ntmps147
      go_wp2
      go_ret
      exact ⟨a, cap, rfl, by rw [hs.out]; exact hr, fun h => absurd h (by omega), fun _ => ⟨rfl, rfl, rfl⟩, hc, hm, Below.refl _ _⟩
    · obtain ⟨b, off, ha, hb, -⟩ := hr 0 (by omega)
      subst ha
      obtain ⟨h, hh⟩ : ∃ h, h = n / 2 := ⟨_, rfl⟩
      have hdiv : (n : Int).tdiv 2 = (h : Int) := by rw [Int.tdiv_eq_ediv_of_nonneg (by omega)]; omega
      have hA := hr.take h
      have hB := hr.drop h
      have lA : (l.take h).length = h := by rw [List.length_take]; omega
      have lB : (l.drop h).length = n - h := by rw [List.length_drop]; omega
      have hM : List.merge (srt (l.take h)) (srt (l.drop h)) leI = srt l := by rw [srt_merge, List.take_append_drop]
      have sA : (srt (l.take h)).length = h := by rw [srt_length]; exact lA
      have sB : (srt (l.drop h)).length = n - h := by rw [srt_length]; exact lB
      have C1 := Lib.hid (ih h (by omega) (some ⟨b, off, none⟩) cap (l.take h) w lA (by omega) (by omega) (by omega) hA)
      obtain ⟨m, hm'⟩ : ∃ m, m = n - h := ⟨_, rfl⟩
      have C2 : Hid (∀ w' (hb : Below w.heap.size w w'), Calls Tryz.prog 147 #[.slice (some ⟨b, off + h, none⟩) (n - h) (cap - h)] w' fun e w'' => ∃ a' c', e = .returned (.slice a' m c') ∧ Reads .i64 w'' a' (srt (l.drop h)) ∧ m ≤ c' ∧ c' ≤ 9223372036854775807 ∧ Below w'.heap.size w' w'') :=
        Lib.hid (fun w' hb => (ih (n - h) (by omega) (some ⟨b, off + h, none⟩) (cap - h) (l.drop h) w' lB (by omega) (by omega) (by omega) (hB.kept hb)).mono (by
          rintro e w'' ⟨a', c', rfl, h1, -, -, h2, h3, h4⟩
          exact ⟨a', c', by rw [hm'], h1, by omega, h3, h4⟩))
      have hn2 : 2 ≤ (n : Int) := by omega
      have hhn : h < n := by omega
      have hh1 : 1 ≤ h := by omega
      clear ih hA hB lA lB hr hh
      generalize srt (l.take h) = A at *
      generalize srt (l.drop h) = B at *
      generalize srt l = M at *
      rw [← hm'] at sB
      have HN := Lib.hid (show n = h + m by omega)
      have hmn : m ≤ n := by omega
      have HL := Lib.hid (And.intro sA sB)
      clear hm' sA sB hln
      go_enter Tryz.func147, Tryz.ntmps147
      go_wp2_with fail
      refine C1.out.mono ?_
      rintro e w1 ⟨a1, c1, rfl, hR1, -, -, hl1, hc1, hs1⟩
      go_wp2_with fail
      refine (C2.out _ hs1).mono ?_
      rintro e w2 ⟨a2, c2, rfl, hR2, hl2, hc2, hs2⟩
      have hR1' := hR1.kept hs2
      have hb2 := hs1.trans (hs2.mono hs1.size)
      clear C1 C2 hR1
      go_wp2_with fail
      go_loopw [5, 6, 7] (fun v x y wr => ∃ (i k : Nat) (O : List Int), i ≤ h ∧ k ≤ m ∧ x = .int .i64 (i : Int) ∧ y = .int .i64 (k : Int) ∧ Owns w2.heap.size wr v O ∧ O.length = i + k ∧
          O ++ List.merge (A.drop i) (B.drop k) leI = M ∧ Below w2.heap.size w2 wr)
        (fun _ x y _ => (n - ((intOf x).toNat + (intOf y).toNat)))
      case atStart => exact ⟨0, 0, [], by omega, by omega, rfl, rfl, Owns.empty w2 (Nat.le_refl _), rfl, by simpa using hM, (Below.refl _ _).alloc (Nat.le_refl _) _⟩
      case round =>
        obtain ⟨i, k, O, hi, hk, rfl, rfl, hO, hOl, hOM, hbel⟩ := hrel
        have hsz := hbel.size
        have hki : (k : Int) ≤ (m : Int) := by omega
        have hii : (i : Int) ≤ (h : Int) := by omega
        have sA := HL.out.1
        have sB := HL.out.2
        have tkA : ∀ (hlt : i < h) (hc : m ≤ k ∨ (k < m ∧ A.getD i 0 ≤ B.getD k 0)), (O ++ [A.getD i 0]) ++ List.merge (A.drop (i + 1)) (B.drop k) leI = M := fun hlt hc => by
          rw [List.append_assoc, List.singleton_append, ← merge_left (by omega) (by omega)]; exact hOM
        have tkB : ∀ (hlt : k < m) (hc : h ≤ i ∨ (i < h ∧ ¬ A.getD i 0 ≤ B.getD k 0)), (O ++ [B.getD k 0]) ++ List.merge (A.drop i) (B.drop (k + 1)) leI = M := fun hlt hc => by
          rw [List.append_assoc, List.singleton_append, ← merge_right' (by omega) (by omega)]; exact hOM
        have tkE : h ≤ i → m ≤ k → O = M := fun h1 h2 => by
          rw [merge_end (by omega) (by omega), List.append_nil] at hOM; exact hOM
        have TA := Lib.hid tkA
        have TB := Lib.hid tkB
        have TE := Lib.hid tkE
        clear tkA tkB tkE hOM sA sB
        by_cases hil : i < h
        · have hil' : (i : Int) < (h : Int) := by omega
          obtain ⟨b1, o1, ha1, hb1, hcA⟩ := hR1' i (by rw [HL.out.1]; exact hil)
          subst ha1
          have hcA' : wr.cell? ⟨b1, o1 + i, none⟩ = some (.int .i64 (A.getD i 0)) := by rw [hbel.cell (p := ⟨b1, o1 + i, none⟩) hb1]; exact hcA
          clear hcA
          by_cases hkl : k < m
          · have hkl' : (k : Int) < (m : Int) := by omega
            have hkm : ((k : Int) == (m : Int)) = false := by rw [beq_eq_false_iff_ne]; omega
            obtain ⟨b2, o2, ha2, hb2', hcB⟩ := hR2 k (by rw [HL.out.2]; exact hkl)
            subst ha2
            have hcB' : wr.cell? ⟨b2, o2 + k, none⟩ = some (.int .i64 (B.getD k 0)) := by rw [hbel.cell (p := ⟨b2, o2 + k, none⟩) hb2']; exact hcB
            clear hcB
            by_cases hle : A.getD i 0 ≤ B.getD k 0
            · have hle' : decide (A.getD i 0 ≤ B.getD k 0) = true := by rw [decide_eq_true_eq]; exact hle
              have D := Lib.hid (TA.out hil (.inr ⟨hkl, hle⟩))
              clear TA TB TE
              generalize A.getD i 0 = x at *
              generalize B.getD k 0 = y at *
              go_wp2
              go_quiet (fail)
              go_wp2_with (first | (at_builtin; refine wpList_app rfl _ _ rfl w2.heap.size _ rfl hO rfl (by omega) (by first | omega | (simp; omega)) ?_; intro v' w' hO' hbel' hg'))
              go_roundw
              case rel => exact ⟨i + 1, k, O ++ [x], by omega, by omega, by go_num, rfl, hO', by simp; omega, D.out, (below_drewN hbel _).trans hbel'⟩
              case measure =>
                have := HN.out
                simp [intOf]
                omega
            · have hle' : decide (A.getD i 0 ≤ B.getD k 0) = false := by rw [decide_eq_false_iff_not]; exact hle
              have D := Lib.hid (TB.out hkl (.inr ⟨hil, hle⟩))
              clear TA TB TE
              generalize A.getD i 0 = x at *
              generalize B.getD k 0 = y at *
              go_wp2
              go_quiet (fail)
              go_wp2_with (first | (at_builtin; refine wpList_app rfl _ _ rfl w2.heap.size _ rfl hO rfl (by omega) (by first | omega | (simp; omega)) ?_; intro v' w' hO' hbel' hg'))
              go_roundw
              case rel => exact ⟨i, k + 1, O ++ [y], by omega, by omega, rfl, by go_num, hO', by simp; omega, D.out, (below_drewN hbel _).trans hbel'⟩
              case measure =>
                have := HN.out
                simp [intOf]
                omega
          · obtain rfl : k = m := by omega
            have hkm : ((k : Int) == (k : Int)) = true := beq_self_eq_true _
            have D := Lib.hid (TA.out hil (.inl (Nat.le_refl _)))
            clear TA TB TE
            generalize A.getD i 0 = x at *
            generalize B.getD k 0 = y at *
            go_wp2
            go_quiet (fail)
            go_wp2_with (first | (at_builtin; refine wpList_app rfl _ _ rfl w2.heap.size _ rfl hO rfl (by omega) (by first | omega | (simp; omega)) ?_; intro v' w' hO' hbel' hg'))
            go_roundw
            case rel => exact ⟨i + 1, k, O ++ [x], by omega, by omega, by go_num, rfl, hO', by simp; omega, D.out, (below_drewN hbel _).trans hbel'⟩
            case measure =>
              have := HN.out
              simp [intOf]
              omega
        · obtain rfl : i = h := by omega
          by_cases hkl : k < m
          · have hkl' : (k : Int) < (m : Int) := by omega
            have hkm : ((k : Int) == (m : Int)) = false := by rw [beq_eq_false_iff_ne]; omega
            obtain ⟨b2, o2, ha2, hb2', hcB⟩ := hR2 k (by rw [HL.out.2]; exact hkl)
            subst ha2
            have hcB' : wr.cell? ⟨b2, o2 + k, none⟩ = some (.int .i64 (B.getD k 0)) := by rw [hbel.cell (p := ⟨b2, o2 + k, none⟩) hb2']; exact hcB
            clear hcB
            have D := Lib.hid (TB.out hkl (.inl (Nat.le_refl _)))
            clear TA TB TE
            generalize A.getD i 0 = x at *
            generalize B.getD k 0 = y at *
            go_wp2
            go_quiet (fail)
            go_wp2_with (first | (at_builtin; refine wpList_app rfl _ _ rfl w2.heap.size _ rfl hO rfl (by omega) (by first | omega | (simp; omega)) ?_; intro v' w' hO' hbel' hg'))
            go_roundw
            case rel => exact ⟨i, k + 1, O ++ [y], by omega, by omega, rfl, by go_num, hO', by simp; omega, D.out, (below_drewN hbel _).trans hbel'⟩
            case measure =>
              have := HN.out
              simp [intOf]
              omega
          · obtain rfl : k = m := by omega
            have hend := TE.out (Nat.le_refl _) (Nat.le_refl _)
            subst hend
            have hlO : O.length = n := by have := HN.out; omega
            subst hlO
            have HO := Lib.hid hO
            obtain ⟨a5, c5, rfl, hR5, hl5, hc5⟩ := hO.shape
            clear TA TB TE hO HN HL
            have HR5 := Lib.hid hR5
            clear hR5
            go_wp2
            go_ret
            exact ⟨a5, c5, rfl, HR5.out, fun _ => HO.out.mono hb2.size, fun h => absurd h h2, hl5, hc5, hb2.trans (hbel.mono hb2.size)⟩

end Go.Proofs.YtmgdcnibmifdeaaGreatDoor
