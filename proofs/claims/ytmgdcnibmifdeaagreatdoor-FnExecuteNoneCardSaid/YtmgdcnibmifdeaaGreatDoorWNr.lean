/- Contracts of the program's near, CodeFar and CodeMend. -/
import Derived.Test.YtmgdcnibmifdeaaGreatDoorWCodeOf
import Derived.Test.YtmgdcnibmifdeaaGreatDoorWSrt
import Derived.Test.YtmgdcnibmifdeaaGreatDoorWMark
import Derived.Test.YtmgdcnibmifdeaaGreatDoorNr
set_option linter.unusedVariables false
namespace Go.Proofs.YtmgdcnibmifdeaaGreatDoor
open Go.RowKit Res

theorem near_any (n : Nat) (w : World) (hn : n < 16777216) :
    Calls Tryz.prog 50 #[.int .i64 (n : Int)] w fun e w' => ∃ v l, e = .returned (.tuple #[v, .int .i64 ((far n : Nat) : Int)]) ∧ Owns w.heap.size w' v l ∧ nearP n 4096 l ∧ Below w.heap.size w w' := by
  have hb1 : Below w.heap.size w (w.alloc (.cells #[] 3)) := (Below.refl _ _).alloc (Nat.le_refl _) _
  have hO0 := Owns.empty w (Nat.le_refl w.heap.size)
  have hsz1 : (w.alloc (.cells #[] 3)).heap.size = w.heap.size + 1 := by simp
  have HG := Lib.hid (fun k hk => cdsTo_get 4096 k hk)
  have HN := Lib.hid (cdsTo_length 4096)
  have HL := Lib.hid (fun k => @farTo_lt n k)
  have HGE := Lib.hid (fun k => @farTo_ge n k)
  have HF : Hid (far n = farTo n 4096) := Lib.hid rfl
  have HFl := Lib.hid (farTo_le n)
  have HZ : Hid (farTo n 0 = 25) := Lib.hid rfl
  have P0 := Lib.hid (nearP_zero n)
  have P1 := Lib.hid (fun k => @nearP_new n k)
  have P2 := Lib.hid (fun k l l' => @nearP_more n k l l')
  have P3 := Lib.hid (fun k l => @nearP_same n k l)
  have P4 := Lib.hid (fun k l m => @nearP_perm n k l m)
  have HX : Hid (∀ k, k < 4096 → n ^^^ code k < 2 ^ 24) := Lib.hid (fun k hk => Nat.xor_lt_two_pow hn (code_lt hk))
  have HPL : Hid (∀ k l, nearP n k l → l.length ≤ k) := Lib.hid (fun k l h => h.1)
  generalize far n = F at *
  generalize nearP n = NP at *
  generalize farTo n = FT at *
  go_enter Tryz.func50, Tryz.ntmps50
  go_wp2_with fail
  refine (words_any _).mono ?_
  rintro e w2 ⟨v2, rfl, hO2, hs2⟩
  have hOo := hO0.kept hs2
  have hb2 := hb1.trans (hs2.mono hb1.size)
  have hS : (cdsTo 4096).length = 4096 := HN.out
  generalize cdsTo 4096 = S at *
  obtain ⟨a2, c2, rfl, hR2, hl2, hc2⟩ := hO2.shape
  rw [hsz1] at hO2
  have HO2 := Lib.hid hO2
  have hSi : (S.length : Int) ≤ 4096 := by omega
  clear hO2 hR2 hsz1 hS
  go_wp2_with fail
  go_loopw [4, 5, 12] (fun v y x wr => ∃ k : Nat, k ≤ S.length ∧ x = .int .i64 (k : Int) ∧ y = .int .i64 ((FT k : Nat) : Int) ∧ (∃ g c l, v = .slice (some ⟨g, 0, none⟩) l.length c ∧ Hid (NP k l) ∧ Owns w.heap.size wr (.slice (some ⟨g, 0, none⟩) l.length c) l ∧
      (Value.slice a2 S.length c2).ownBlock ≠ some g) ∧ Owns (w.heap.size + 1) wr (.slice a2 S.length c2) S ∧ Below w.heap.size w wr)
    (fun _ _ x _ => (S.length - (intOf x).toNat))
  case atStart =>
    refine ⟨0, by omega, rfl, by rw [HZ.out]; rfl, ⟨_, _, [], rfl, Lib.hid P0.out, hOo, fun hj => ?_⟩, HO2.out, hb2⟩
    have := (HO2.out.lt _ hj).1
    omega
  case round =>
    obtain ⟨k, hk, rfl, rfl, ⟨gv, cv, l, rfl, HP, hO, hne⟩, hOS, hbel⟩ := hrel
    have hlen := HPL.out k l HP.out
    have hsz := hbel.size
    have hfl := HFl.out k
    by_cases hlt : k < S.length
    · have hki : (k : Int) < (S.length : Int) := by omega
      have hk4 : k < 4096 := by have := HN.out; omega
      obtain ⟨b, off, ha, hb, hc⟩ := hOS.reads.1 k hlt
      rw [HG.out k hk4] at hc
      have hcl := code_lt (m := k) hk4
      have hxl := HX.out k hk4
      have hx : bits .xor .i64 (n : Int) ((code k : Nat) : Int) = ((n ^^^ code k : Nat) : Int) := i64_xor _ _ (by omega) (by omega)
      have CW := Lib.hid (fun w => weight_any ((n ^^^ code k : Nat) : Int) w (by omega) (by omega))
      rw [Int.toNat_natCast] at CW
      have L1 := Lib.hid (HL.out k)
      have L2 := Lib.hid (HGE.out k)
      have Q1 := Lib.hid (P1.out k)
      have Q2 := Lib.hid (P2.out k l)
      have Q3 := Lib.hid (P3.out k l)
      have HOS := Lib.hid hOS
      have HNE := Lib.hid hne
      have HKK : Hid (k < 4096) := Lib.hid hk4
      clear hOS hne hk4
      subst ha
      have hgO := hO.ge
      generalize wt (n ^^^ code k) = t at *
      generalize n ^^^ code k = z at *
      generalize code k = y at *
      by_cases h1 : t < FT k
      · have h1b : (t : Int) < ((FT k : Nat) : Int) := by omega
        have D := Lib.hid (L1.out h1)
        have Q := Lib.hid (Q1.out h1)
        have hbq : ((t : Int) == (t : Int)) = true := beq_self_eq_true _
        have hOe : Owns w.heap.size (wr.alloc (.cells #[] 3)) (.slice (some ⟨wr.heap.size, 0, none⟩) 0 0) [] := Owns.empty wr hsz
        have hsz2 : w.heap.size ≤ (wr.alloc (.cells #[] 3)).heap.size := by simp; omega
        have hbel2 := hbel.alloc hsz (.cells #[] 3)
        have HA : Hid ((wr.alloc (.cells #[] 3)).heap.size = wr.heap.size + 1) := Lib.hid (by simp)
        clear h1
        go_wp2_with fail
        go_wp2_with fail
        refine (CW.out _).mono ?_
        rintro e w' ⟨rfl, rfl⟩
        go_wp2_with (first | (at_builtin; go_loud (refine wpList_app2 (w := wr.alloc (.cells #[] 3)) (v := .slice (some ⟨wr.heap.size, 0, none⟩) 0 0) rfl _ _ rfl w.heap.size [] rfl hOe (by rw [HA.out]; rfl) (by simp) hsz2 ?_); intro v' w' hO' hg' hat'))
        go_roundw
        case rel =>
          obtain ⟨g', c', hv', hB', -⟩ := hO'.head (by simp)
          subst hv'
          refine ⟨k + 1, by omega, by go_num, by rw [D.out], ⟨g', c', [((y : Nat) : Int)], rfl, Lib.hid Q.out, hO', fun hj => ?_⟩, ?_, ?_⟩
          · have hlt2 := (HOS.out.lt _ hj).2
            rcases hat' with h | h
            · have e : some g' = some wr.heap.size := h
              simp at e
              omega
            · have e : some g' = some ((wr.alloc (.cells #[] 3)).heap.size + 1) := h
              simp at e
              omega
          · exact (HOS.out.alloc _).grown hg' (fun j hj e => by
              have hlt2 := (HOS.out.lt _ hj).2
              have e2 : some j = some wr.heap.size := e
              simp at e2
              omega)
          · exact hbel2.grown hg' hsz2 (fun q hq => by
              have e2 : some wr.heap.size = some q := hq
              simp at e2
              omega)
        case measure => simp [intOf]; omega
      · have h1b : ((FT k : Nat) : Int) ≤ (t : Int) := by omega
        have D := Lib.hid (L2.out h1)
        by_cases h2 : t = FT k
        · subst h2
          have hbq : (((FT k : Nat) : Int) == ((FT k : Nat) : Int)) = true := beq_self_eq_true _
          have Q := Lib.hid (Q2.out (l ++ [((y : Nat) : Int)]) HP.out rfl (by simp) (fun x hx => by
            rcases List.mem_append.1 hx with h | h
            · exact .inl h
            · exact .inr (List.mem_singleton.1 h)))
          clear h1
          go_wp2_with fail
          go_wp2_with fail
          refine (CW.out _).mono ?_
          rintro e w' ⟨rfl, rfl⟩
          go_wp2_with (first | (at_builtin; refine wpList_app2 rfl _ _ rfl w.heap.size _ rfl hO rfl (by omega) (by omega) ?_; intro v' w' hO' hg' hat'))
          go_roundw
          case rel =>
            obtain ⟨g', c', hv', hB', -⟩ := hO'.head (by simp)
            subst hv'
            refine ⟨k + 1, by omega, by go_num, by rw [D.out], ⟨g', c', l ++ [((y : Nat) : Int)], rfl, Lib.hid Q.out, hO', fun hj => ?_⟩, HOS.out.grown hg' (fun j hj e => HNE.out (hj.trans (by rw [e]; rfl))), hbel.grown hg' hsz (fun q hq => (hO.lt q hq).1)⟩
            rcases hat' with h | h
            · have e : some g' = some gv := h
              exact HNE.out (hj.trans e)
            · have hlt2 := (HOS.out.lt _ hj).2
              have e : some g' = some (wr.heap.size + 1) := h
              simp at e
              omega
          case measure => simp [intOf]; omega
        · have hbq : ((t : Int) == ((FT k : Nat) : Int)) = false := by rw [beq_eq_false_iff_ne]; omega
          have Q := Lib.hid (Q3.out HP.out h1 h2)
          clear h1 h2
          go_wp2_with fail
          go_wp2_with fail
          refine (CW.out _).mono ?_
          rintro e w' ⟨rfl, rfl⟩
          go_wp2_with fail
          go_roundw
          case rel => exact ⟨k + 1, by omega, by go_num, by rw [D.out], ⟨_, _, l, rfl, Lib.hid Q.out, hO, HNE.out⟩, HOS.out, hbel⟩
          case measure => simp [intOf]; omega
    · have hkl : k = 4096 := by have := HN.out; omega
      have CS := Lib.hid (sorted_any hO (by omega))
      have HQ : Hid (F = FT k) := Lib.hid (by rw [hkl]; exact HF.out)
      have HPP : Hid (NP 4096 (srt l)) := Lib.hid (by have := P4.out k l (srt l) (srt_perm l) HP.out; rw [hkl] at this; exact this)
      have hkS : (S.length : Int) ≤ (k : Int) := by omega
      clear hk hlt hlen hSi HN HG HL HGE HF HFl HZ P0 P1 P2 P3 P4 HX HPL HP hkl
      go_wp2_with fail
      refine CS.out.mono ?_
      rintro e w3 ⟨rfl, hO3, hg3⟩
      go_wp2_with fail
      go_ret2
      exact ⟨_, srt l, by rw [HQ.out]; rfl, hO3, HPP.out, hbel.grown hg3 hsz (fun q hq => (hO.lt q hq).1)⟩

theorem implCodeFar_ok (n : Nat) (w : World) (hn : n < 16777216) :
    Calls Tryz.prog 23 #[.int .i64 (n : Int)] w fun e w' => e = .returned (.int .i64 ((far n : Nat) : Int)) ∧ Below w.heap.size w w' := by
  have hin : inB (n : Int) 0 16777215 = true := inB_true (by omega) (by omega)
  go_enter Tryz.func23, Tryz.ntmps23
  go_wp2_with fail
  refine (implWordValid_any _ _).mono ?_
  rintro e w' ⟨rfl, rfl⟩
  go_wp2_with fail
  refine (near_any n _ hn).mono ?_
  rintro e w1 ⟨v, l, rfl, hO, -, hs⟩
  go_wp2_with fail
  go_ret
  exact ⟨rfl, hs⟩
/-- What CodeMend answers. -/
def mendV (n : Nat) : Value := if far n ≤ 3 then .tuple #[.int .i64 ((mendW n : Nat) : Int), .bool true] else .tuple #[.int .i64 0, .bool false]
theorem implCodeMend_ok (n : Nat) (w : World) (hn : n < 16777216) :
    Calls Tryz.prog 25 #[.int .i64 (n : Int)] w fun e w' => e = .returned (mendV n) ∧ Below w.heap.size w w' := by
  have hin : inB (n : Int) 0 16777215 = true := inB_true (by omega) (by omega)
  have HH := Lib.hid (fun l => @near_head n hn l)
  have HP : Hid (∀ l, nearP n 4096 l → 0 < l.length) := Lib.hid (fun l h => h.2.1 (by omega))
  have HV : Hid (mendV n = if far n ≤ 3 then .tuple #[.int .i64 ((mendW n : Nat) : Int), .bool true] else .tuple #[.int .i64 0, .bool false]) := Lib.hid rfl
  have CN := Lib.hid (fun w => near_any n w hn)
  generalize mendV n = V at *
  generalize nearP n 4096 = NP at *
  generalize mendW n = m at *
  generalize far n = F at *
  go_enter Tryz.func25, Tryz.ntmps25
  go_wp2_with fail
  refine (implWordValid_any _ _).mono ?_
  rintro e w' ⟨rfl, rfl⟩
  go_wp2_with fail
  refine (CN.out _).mono ?_
  rintro e w1 ⟨v, l, rfl, hO, hp, hs⟩
  obtain ⟨a1, c1, rfl, hR1, hl1, hc1⟩ := hO.shape
  have h0 := HP.out l hp
  obtain ⟨b, off, ha, hb, hc⟩ := hR1 0 h0
  rw [Nat.add_zero] at hc
  have hli : (0 : Int) < (l.length : Int) := by omega
  by_cases h3 : F ≤ 3
  · have h3i : ¬ (3 : Int) < (F : Int) := by omega
    rw [HH.out l hp h3] at hc
    have HQ := Lib.hid HV.out
    rw [if_pos h3] at HQ
    clear HV HH HP hO hR1 h0 hp h3
    subst ha
    go_wp2_with fail
    go_ret2
    exact ⟨by rw [HQ.out]; rfl, hs⟩
  · have h3i : (3 : Int) < (F : Int) := by omega
    have HQ := Lib.hid HV.out
    rw [if_neg h3] at HQ
    clear HV HH HP hO hR1 h0 hp h3 hc
    go_wp2_with fail
    go_ret2
    exact ⟨by rw [HQ.out]; rfl, hs⟩

end Go.Proofs.YtmgdcnibmifdeaaGreatDoor
